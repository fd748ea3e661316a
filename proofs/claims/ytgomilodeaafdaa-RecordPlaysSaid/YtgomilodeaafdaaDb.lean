/- A record beside the document's; rows of pairs. No condition. -/
import Derived.Test.YtgomilodeaafdaaDa
import Derived.Test.YtgomilodeaafdaaBr
import Derived.Test.YtgomilodeaafdaaBn
import Derived.Test.YtgomilodeaafdaaBa
namespace Go.Proofs.Ytgomilodeaafdaa
open Go.ChangeShapes Go.WideShapes Go.ChangeAt Go.RowKit Ds
theorem fp_lts {F : Nat → Prop} {w0 w w' : World} (h : ∀ k, F k → w0.heap.size ≤ k ∧ k < w.heap.size) (hb : w0.heap.size ≤ w.heap.size) (hs : w.heap.size ≤ w'.heap.size) : ∀ k, Grew F w w' k → w0.heap.size ≤ k ∧ k < w'.heap.size := fun k hk =>
  hk.elim (fun hk => ⟨(h k hk).1, Nat.lt_of_lt_of_le (h k hk).2 hs⟩) (fun hk => ⟨Nat.le_trans hb hk.1, hk.2⟩)
/-- a record and the document's, each in its own memory -/
structure Ha9 (w0 w : World) (F F1 F2 : Nat → Prop) (r d mr : Nat) (M : DM) (A : List Pr) (N : NM) (A2 l : List Pr) : Prop where
  s1 : ∀ k, F1 k → F k
  s2 : ∀ k, F2 k → F k
  dis : ∀ k, F1 k → ¬ F2 k
  f : RecF w w0.heap.size F1 r d M A
  m : RrF w w0.heap.size mr F2 N A2 l
  lt : ∀ k, F k → w0.heap.size ≤ k ∧ k < w.heap.size
  bel : Below w0.heap.size w0 w
  lens : Lens M 1048576
/-- both hold the same -/
def Bo9 (w0 w : World) (F : Nat → Prop) (r mr : Nat) (A : List Pr) : Prop := ∃ F1 F2 d M l, Ha9 w0 w F F1 F2 r d mr M A (nmM M) A l
section
variable {w0 w w' w2 : World} {F F' F1 F2 T : Nat → Prop} {r d mr : Nat} {M M' : DM} {A A' A2 l l' : List Pr} {N N' : NM}
theorem RrF.lts {B : Nat} (h : RrF w B mr F N A l) : ∀ k, F k → B ≤ k ∧ k < w.heap.size := by
  obtain ⟨⟨p, Fd, X, av, hx⟩, -⟩ := h
  exact hx.lt
theorem Ha9.other (h : Ha9 w0 w F F1 F2 r d mr M A N A2 l) (hf : Fr T w w') (hd : ∀ k, F k → ¬ T k) (hT : ∀ k, T k → w0.heap.size ≤ k) : Ha9 w0 w' F F1 F2 r d mr M A N A2 l :=
  ⟨h.s1, h.s2, h.dis, h.f.other hf (fun k hk => hd k (h.s1 k hk)), h.m.other hf (fun k hk => hd k (h.s2 k hk)), fun k hk => ⟨(h.lt k hk).1, Nat.lt_of_lt_of_le (h.lt k hk).2 hf.size⟩, h.bel.trans (hf.below h.bel.size hT), h.lens⟩
theorem Ha9.quiet (h : Ha9 w0 w F F1 F2 r d mr M A N A2 l) (hf : Fr (fun _ => False) w w') : Ha9 w0 w' F F1 F2 r d mr M A N A2 l := h.other hf (fun _ _ h => h) (fun _ h => h.elim)
theorem Ha9.wide (h : Ha9 w0 w F F1 F2 r d mr M A N A2 l) (hF : ∀ k, F k → F' k) (hl : ∀ k, F' k → w0.heap.size ≤ k ∧ k < w.heap.size) : Ha9 w0 w F' F1 F2 r d mr M A N A2 l :=
  ⟨fun k hk => hF k (h.s1 k hk), fun k hk => hF k (h.s2 k hk), h.dis, h.f, h.m, hl, h.bel, h.lens⟩
/-- the document's record is turned -/
theorem Ha9.rturn (h : Ha9 w0 w F F1 F2 r d mr M A N A2 l) (g : RrGot w w0.heap.size mr F2 N' A' l' w') : Ha9 w0 w' (Grew F w w') F1 (Grew F2 w w') r d mr M A N' A' l' ∧ Fr F w w' := by
  have hf : Fr F w w' := g.2.mono (fun i hi _ => h.s2 i hi)
  refine ⟨⟨fun k hk => .inl (h.s1 k hk), fun k hk => hk.imp (h.s2 k) id, fun k hk hk2 => ?_, h.f.other g.2 (fun k hk hk2 => h.dis k hk hk2), g.1, fp_lts h.lt h.bel.size hf.size, h.bel.trans (hf.below h.bel.size (fun i hi => (h.lt i hi).1)), h.lens⟩, hf⟩
  rcases hk2 with hk2 | hk2
  · exact h.dis k hk hk2
  · have := (h.lt k (h.s1 k hk)).2; omega
/-- the record is turned -/
theorem Ha9.fturn (h : Ha9 w0 w F F1 F2 r d mr M A N A2 l) (g : RecGot w w0.heap.size F1 r d M' A' w') (hl : Lens M' 1048576) : Ha9 w0 w' (Grew F w w') (Grew F1 w w') F2 r d mr M' A' N A2 l ∧ Fr F w w' := by
  have hf : Fr F w w' := g.2.mono (fun i hi _ => h.s1 i hi)
  refine ⟨⟨fun k hk => hk.imp (h.s1 k) id, fun k hk => .inl (h.s2 k hk), fun k hk hk2 => ?_, g.1, h.m.other g.2 (fun k hk hk2 => h.dis k hk2 hk), fp_lts h.lt h.bel.size hf.size, h.bel.trans (hf.below h.bel.size (fun i hi => (h.lt i hi).1)), hl⟩, hf⟩
  rcases hk with hk | hk
  · exact h.dis k hk hk2
  · have := (h.lt k (h.s2 k hk2)).2; omega
def BoTo9 (w0 w : World) (F : Nat → Prop) (r mr : Nat) (w' : World) : Prop := ∃ A', Bo9 w0 w' (Grew F w w') r mr A' ∧ Fr F w w'
theorem Bo9.lts (h : Bo9 w0 w F r mr A) : (∀ k, F k → w0.heap.size ≤ k ∧ k < w.heap.size) ∧ Below w0.heap.size w0 w := by
  obtain ⟨F1, F2, d, M, l, h⟩ := h
  exact ⟨h.lt, h.bel⟩
theorem Bo9.other (h : Bo9 w0 w F r mr A) (hf : Fr T w w') (hd : ∀ k, F k → ¬ T k) (hT : ∀ k, T k → w0.heap.size ≤ k) : Bo9 w0 w' F r mr A := by
  obtain ⟨F1, F2, d, M, l, h⟩ := h
  exact ⟨F1, F2, d, M, l, h.other hf hd hT⟩
theorem Bo9.quiet (h : Bo9 w0 w F r mr A) (hf : Fr (fun _ => False) w w') : Bo9 w0 w' F r mr A := h.other hf (fun _ _ h => h) (fun _ h => h.elim)
theorem Bo9.wide (h : Bo9 w0 w F r mr A) (hF : ∀ k, F k → F' k) (hl : ∀ k, F' k → w0.heap.size ≤ k ∧ k < w.heap.size) : Bo9 w0 w F' r mr A := by
  obtain ⟨F1, F2, d, M, l, h⟩ := h
  exact ⟨F1, F2, d, M, l, h.wide hF hl⟩
theorem Bo9.stay (h : Bo9 w0 w F r mr A) (hf : Fr (fun _ => False) w w') : BoTo9 w0 w F r mr w' :=
  ⟨A, (h.quiet hf).wide (fun _ hk => .inl hk) (fp_lts h.lts.1 h.lts.2.size hf.size), hf.mono (fun _ hk _ => hk.elim)⟩
theorem Bo9.base {w1 : World} (h : Bo9 w1 w F r mr A) (hb : Below w0.heap.size w0 w) (hs : w0.heap.size ≤ w1.heap.size) : Bo9 w0 w F r mr A := by
  obtain ⟨F1, F2, d, M, l, h⟩ := h
  exact ⟨F1, F2, d, M, l, h.s1, h.s2, h.dis, h.f.base hs, h.m.base hs, fun k hk => ⟨Nat.le_trans hs (h.lt k hk).1, (h.lt k hk).2⟩, hb, h.lens⟩
theorem BoTo9.pre {w1 : World} (hl : ∀ k, F k → w0.heap.size ≤ k ∧ k < w.heap.size) (hb : w0.heap.size ≤ w.heap.size) (hq : Fr (fun _ => False) w w1) (h : BoTo9 w0 w1 F r mr w') : BoTo9 w0 w F r mr w' := by
  obtain ⟨A', h2, h3⟩ := h
  have hs := hq.size
  have hs2 := h3.size
  exact ⟨A', h2.wide (fun k hk => hk.imp id (fun q => ⟨by omega, q.2⟩)) (fp_lts hl hb (by omega)), (hq.mono (fun _ h _ => h.elim)).trans h3 (fun _ h _ => h)⟩
theorem Ha9.lists (h : Ha9 w0 w F F1 F2 r d mr M A N A l) : l.Perm A := h.m.perm
/-- what the second call leaves -/
def Tw9 (w0 w : World) (F : Nat → Prop) (r mr : Nat) (fn : Nat) (args : Array Value) (v : Value) (e : Ending) (w2 : World) : Prop :=
  e = .returned v ∧ Fr F w w2 ∧ ∀ w3, Fr (fun _ => False) w2 w3 → Calls Try.prog fn args w3 fun e w4 => e = .returned v ∧ BoTo9 w0 w F r mr w4
theorem tw_done9 {w3 w4 : World} (hl : ∀ k, F k → w0.heap.size ≤ k ∧ k < w.heap.size) (hb : w0.heap.size ≤ w.heap.size) {M' : DM} {A' : List Pr} {F1' F2' : Nat → Prop} (h2 : Fr F w w2) (hq : Fr (fun _ => False) w2 w3) (h : Ha9 w0 w4 (Grew (Grew F w w2) w3 w4) F1' F2' r d mr M' A' N A2 l) (h4 : Fr (Grew F w w2) w3 w4) (hN : N = nmM M') (hL : A2 = A') : BoTo9 w0 w F r mr w4 := by
  have hs := h2.size
  have hs2 := hq.size
  have hs3 := h4.size
  subst hN hL
  have hf : Fr F w w4 := (h2.wide hq (fun _ h => h.elim)).wide h4 (fun k hk => hk.imp id (fun q => q.1))
  refine ⟨_, ⟨F1', F2', d, M', l, h.wide (fun k hk => ?_) (fp_lts hl hb hf.size)⟩, hf⟩
  rcases hk with (hk | hk) | hk
  · exact .inl hk
  · exact .inr ⟨hk.1, by omega⟩
  · exact .inr ⟨by omega, hk.2⟩
theorem key9 {key : ByteArray} (h : LikeG vl M A) : hasK (tb M) key = (fdG key A).isSome := h.has key
theorem bo9_set (h : Bo9 w0 w F r mr A) (key s : ByteArray) (hk : key.size ≤ maxLen) (hs : s.size ≤ maxLen) : ∃ (b : Bool) (c : Int), Calls Try.prog 24 #[.pointer (some ⟨r, 0, none⟩), .string key, .string s] w
    (Tw9 w0 w F r mr 124 #[.pointer (some ⟨mr, 0, none⟩), .string key, .string s] (.tuple #[.bool b, .int .i64 c])) := by
  have hB := h
  obtain ⟨F1, F2, d, M, l, h⟩ := h
  have hl := h.lt
  have hb := h.bel.size
  by_cases hfit : Fits (key, s)
  · have hlike := h.f.like
    have hcn : M.n = A.length := hlike.count
    cases ha : fdG key A with
    | some i =>
      obtain ⟨was, hw⟩ := fdG_some ha
      refine ⟨false, 0, (recSet_there w _ F1 r d M A key s was i h.f hb hfit ha hw).mono ?_⟩
      rintro e w2 ⟨rfl, t, b, hg⟩
      have hls : Lens (setM (stepM M) key (vl s) t b) 1048576 := h.lens.step.set (inv_step M hlike.inv) (by rw [(step_lens M).2.2.2, hlike.count]; exact h.f.len) key _ t b
      obtain ⟨h2, f2⟩ := h.fturn hg hls
      refine ⟨rfl, f2, fun w3 hq => (rrSet_any w3 _ mr F2 _ A l key s (h2.quiet hq).m (h2.quiet hq).bel.size hfit).mono ?_⟩
      rintro e w4 ⟨N', A', l', hg4, hc⟩
      rw [ha] at hc
      rcases hc with ⟨-, rfl, rfl, rfl⟩ | ⟨h9, -⟩ | ⟨h9, -⟩
      · obtain ⟨h4, f4⟩ := (h2.quiet hq).rturn hg4
        refine ⟨rfl, tw_done9 hl hb f2 hq h4 f4 ?_ rfl⟩
        rw [nm_set (inv_step M hlike.inv), nm_step, has_step hlike.inv, key9 hlike, ha, (step_lens M).2.2.2, hcn, L0P_len]
        rfl
      · cases h9
      · cases h9
    | none =>
      by_cases hfull : 1048576 ≤ A.length
      · refine ⟨false, 4, (recSet_full w _ F1 r d M A key s h.f hb hfit ha hfull).mono ?_⟩
        rintro e w2 ⟨rfl, hg⟩
        obtain ⟨h2, f2⟩ := h.fturn hg h.lens.step
        refine ⟨rfl, f2, fun w3 hq => (rrSet_any w3 _ mr F2 _ A l key s (h2.quiet hq).m (h2.quiet hq).bel.size hfit).mono ?_⟩
        rintro e w4 ⟨N', A', l', hg4, hc⟩
        rw [ha] at hc
        rcases hc with ⟨h9, -⟩ | ⟨-, -, rfl, rfl, rfl⟩ | ⟨-, h9, -⟩
        · cases h9
        · obtain ⟨h4, f4⟩ := (h2.quiet hq).rturn hg4
          exact ⟨rfl, tw_done9 hl hb f2 hq h4 f4 (nm_step M).symm rfl⟩
        · omega
      · refine ⟨true, 0, (recSet_new w _ F1 r d M A key s h.f hb hfit ha (by omega)).mono ?_⟩
        rintro e w2 ⟨rfl, t, b, hg⟩
        have hls : Lens (setM (stepM M) key (vl s) t b) 1048576 := h.lens.step.set (inv_step M hlike.inv) (by rw [(step_lens M).2.2.2, hlike.count]; exact h.f.len) key _ t b
        obtain ⟨h2, f2⟩ := h.fturn hg hls
        refine ⟨rfl, f2, fun w3 hq => (rrSet_any w3 _ mr F2 _ A l key s (h2.quiet hq).m (h2.quiet hq).bel.size hfit).mono ?_⟩
        rintro e w4 ⟨N', A', l', hg4, hc⟩
        rw [ha] at hc
        rcases hc with ⟨h9, -⟩ | ⟨-, h9, -⟩ | ⟨-, -, rfl, rfl, rfl⟩
        · cases h9
        · omega
        · obtain ⟨h4, f4⟩ := (h2.quiet hq).rturn hg4
          refine ⟨rfl, tw_done9 hl hb f2 hq h4 f4 ?_ (setG_none ha).symm⟩
          rw [nm_set (inv_step M hlike.inv), nm_step, has_step hlike.inv, key9 hlike, ha, (step_lens M).2.2.2, hcn, L0P_len]
          rfl
  · refine ⟨false, 2, (recSet_long w r key s hk hs hfit).mono ?_⟩
    rintro e w2 ⟨rfl, rfl⟩
    refine ⟨rfl, Fr.refl _ _, fun w3 hq => (rrSet_long w3 mr key s hk hs hfit).mono ?_⟩
    rintro e w4 ⟨rfl, rfl⟩
    exact ⟨rfl, hB.stay hq⟩
theorem bo9_del (h : Bo9 w0 w F r mr A) (key : ByteArray) (hk : key.size ≤ maxLen) : ∃ (b : Bool), Calls Try.prog 29 #[.pointer (some ⟨r, 0, none⟩), .string key] w
    (Tw9 w0 w F r mr 126 #[.pointer (some ⟨mr, 0, none⟩), .string key] (.bool b)) := by
  obtain ⟨F1, F2, d, M, l, h⟩ := h
  have hl := h.lt
  have hb := h.bel.size
  have hlike := h.f.like
  have hcn : M.n = A.length := hlike.count
  cases ha : fdG key A with
  | none =>
    refine ⟨false, (recDel_none w _ F1 r d M A key h.f hb hk ha).mono ?_⟩
    rintro e w2 ⟨rfl, hg⟩
    obtain ⟨h2, f2⟩ := h.fturn hg h.lens.step
    refine ⟨rfl, f2, fun w3 hq => (rrDel_any w3 _ mr F2 _ A l key (h2.quiet hq).m (h2.quiet hq).bel.size hk).mono ?_⟩
    rintro e w4 ⟨rfl, N', l', hg4, hc⟩
    rw [ha] at hc
    rcases hc with ⟨-, rfl⟩ | ⟨h9, -⟩
    · obtain ⟨h4, f4⟩ := (h2.quiet hq).rturn hg4
      exact ⟨by rw [ha]; rfl, tw_done9 hl hb f2 hq h4 f4 (nm_step M).symm (delG_none ha)⟩
    · cases h9
  | some i =>
    obtain ⟨was, hw⟩ := fdG_some ha
    refine ⟨true, (recDel_there w _ F1 r d M A key was i h.f hb hk ha hw).mono ?_⟩
    rintro e w2 ⟨rfl, t, hg⟩
    have hls : Lens (delM (stepM M) key t) 1048576 := h.lens.step.del (inv_step M hlike.inv) (by rw [(step_lens M).2.2.2, hlike.count]; exact h.f.len) key t
    obtain ⟨h2, f2⟩ := h.fturn hg hls
    refine ⟨rfl, f2, fun w3 hq => (rrDel_any w3 _ mr F2 _ A l key (h2.quiet hq).m (h2.quiet hq).bel.size hk).mono ?_⟩
    rintro e w4 ⟨rfl, N', l', hg4, hc⟩
    rw [ha] at hc
    rcases hc with ⟨h9, -⟩ | ⟨-, rfl⟩
    · cases h9
    · obtain ⟨h4, f4⟩ := (h2.quiet hq).rturn hg4
      refine ⟨by rw [ha]; rfl, tw_done9 hl hb f2 hq h4 f4 ?_ rfl⟩
      rw [nm_del (inv_step M hlike.inv), nm_step, has_step hlike.inv, key9 hlike, ha, (step_lens M).2.2.2, hcn, L0P_len]
      rfl
theorem bo9_get (h : Bo9 w0 w F r mr A) (key : ByteArray) (hk : key.size ≤ maxLen) : ∃ (x : ByteArray) (b : Bool), Calls Try.prog 31 #[.pointer (some ⟨r, 0, none⟩), .string key] w
    (Tw9 w0 w F r mr 125 #[.pointer (some ⟨mr, 0, none⟩), .string key] (.tuple #[.string x, .bool b])) := by
  obtain ⟨F1, F2, d, M, l, h⟩ := h
  have hl := h.lt
  have hb := h.bel.size
  have hx : ∃ x, valG A key = .string x := by
    cases ha : fdG key A with
    | none => exact ⟨_, valG_none ha⟩
    | some i => obtain ⟨was, hw⟩ := fdG_some ha; exact ⟨_, valG_some ha hw⟩
  obtain ⟨x, hx⟩ := hx
  refine ⟨x, (fdG key A).isSome, (recGet_any w _ F1 r d M A key h.f hb hk).mono ?_⟩
  rintro e w2 ⟨rfl, hg⟩
  obtain ⟨h2, f2⟩ := h.fturn hg h.lens.step
  refine ⟨by rw [hx], f2, fun w3 hq => (rrGet_any w3 _ mr F2 _ l key A (h2.quiet hq).m (h2.quiet hq).bel.size).mono ?_⟩
  rintro e w4 ⟨rfl, hg4⟩
  obtain ⟨h4, f4⟩ := (h2.quiet hq).rturn hg4
  exact ⟨by rw [hx], tw_done9 hl hb f2 hq h4 f4 (nm_step M).symm rfl⟩
end
end Go.Proofs.Ytgomilodeaafdaa
namespace Go.Proofs.Ytgomilodeaafdaa
open Go.RowKit
instance : DecidableEq Pr := inferInstanceAs (DecidableEq (ByteArray × ByteArray))
set_option maxRecDepth 100000 in
set_option maxHeartbeats 1000000 in
theorem samePairs_any (w : World) (v1 v2 : Value) (l1 l2 : List Pr) (h1 : RdC w 2 v1 l1.length (l1.flatMap encP)) (h2 : RdC w 2 v2 l2.length (l2.flatMap encP)) :
    Calls Try.prog 59 #[v1, v2] w fun e w' => e = .returned (.bool (decide (l1 = l2))) ∧ Fr (fun _ => False) w w' := by
  have hm1 := h1.len
  have hm2 := h2.len
  unfold maxLen at hm1 hm2
  have H1 := Lib.hid h1
  have H2 := Lib.hid h2
  obtain ⟨-, a1, c1, rfl, -⟩ := h1
  obtain ⟨-, a2, c2, rfl, -⟩ := h2
  obtain ⟨r, hr⟩ : ∃ r, decide (l1 = l2) = r := ⟨_, rfl⟩
  rw [hr]
  have HR := Lib.hid hr
  clear hr
  by_cases hl : l1.length = l2.length
  · have gl : ((l1.length : Int) != (l2.length : Int)) = false := by rw [hl]; simp
    have HLL := Lib.hid hl
    go_enter Try.func59, Try.ntmps59
    go_wp2_with fail
    go_loopw [5] (fun i wr => ∃ j : Nat, i = .int .i64 j ∧ j ≤ l1.length ∧ Hid (l1.take j = l2.take j) ∧ Hid (Fr (fun _ => False) w wr)) (fun i _ => l1.length - (intOf i).toNat)
    case atStart => exact ⟨0, rfl, by omega, rfl, Fr.refl _ _⟩
    case round =>
      obtain ⟨j, rfl, hj, HE, HF⟩ := hrel
      obtain ⟨wo, rfl⟩ : ∃ x, x = wr := ⟨_, rfl⟩
      by_cases hlt : j < l1.length
      · have hlt2 : j < l2.length := by omega
        obtain ⟨g1, o1, rfl, d0, d1⟩ := pr_at (H1.out.fr HF.out (fun _ _ h => h)) j hlt
        obtain ⟨g2, o2, rfl, f0, f1⟩ := pr_at (H2.out.fr HF.out (fun _ _ h => h)) j hlt2
        obtain ⟨x, hx⟩ : ∃ x, l1[j] = x := ⟨_, rfl⟩
        obtain ⟨y, hy⟩ : ∃ y, l2[j] = y := ⟨_, rfl⟩
        rw [hx] at d0 d1
        rw [hy] at f0 f1
        obtain ⟨x0, x1⟩ := x
        obtain ⟨y0, y1⟩ := y
        dsimp only at d0 d1 f0 f1
        have HX := Lib.hid hx
        have HY := Lib.hid hy
        have hb0 : (0 : Int) ≤ (j : Int) := by omega
        have hb1 : (j : Int) < (l1.length : Int) := by omega
        have hb2 : (j : Int) < (l2.length : Int) := by omega
        clear hx hy
        by_cases hxy : x0 = y0 ∧ x1 = y1
        · obtain ⟨rfl, rfl⟩ := hxy
          have HE2 : Hid (l1.take (j + 1) = l2.take (j + 1)) := by
            show _ = _
            rw [List.take_succ_eq_append_getElem hlt, List.take_succ_eq_append_getElem hlt2, HE.out, HX.out, HY.out]
          go_upto_region 6 with (fail)
          go_region
          have HF2 := Lib.hid (HF.out.thenDrew)
          go_wp2_with fail
          go_roundw
          case rel => exact ⟨j + 1, by go_num, by omega, HE2, HF2.out⟩
          case measure => simp [intOf]; omega
        · have hne : l1 ≠ l2 := by
            rintro rfl
            have h5 := HX.out
            rw [HY.out] at h5
            exact hxy ⟨(congrArg Prod.fst h5).symm, (congrArg Prod.snd h5).symm⟩
          have hrf : r = false := by rw [← HR.out]; exact decide_eq_false hne
          subst hrf
          clear hne
          by_cases hk : x0 = y0
          · subst hk
            have hrk : ¬ x1 = y1 := fun e => hxy ⟨rfl, e⟩
            have q1 : (x1.toList == y1.toList) = false := by rw [str_beq]; simpa using hrk
            have q2 : ¬ x1.toList = y1.toList := by simpa using q1
            clear hxy hrk q1
            go_upto_region 6 with (fail)
            go_region
            have HF2 := Lib.hid (HF.out.thenDrew)
            go_wp2_with fail
            go_ret
            exact ⟨rfl, HF2.out⟩
          · have q0 : (x0.toList == y0.toList) = false := by rw [str_beq]; simpa using hk
            have q2 : ¬ x0.toList = y0.toList := by simpa using q0
            clear hxy hk q0
            go_upto_region 6 with (fail)
            go_region
            have HF2 := Lib.hid (HF.out.thenDrew)
            go_wp2_with fail
            go_ret
            exact ⟨rfl, HF2.out⟩
      · have hjl : j = l1.length := by omega
        subst hjl
        have heq : l1 = l2 := by have := HE.out; rwa [List.take_length, HLL.out, List.take_length] at this
        have hrt : r = true := by rw [← HR.out]; exact decide_eq_true heq
        subst hrt
        clear heq
        go_wp2_with fail
        go_ret
        exact ⟨rfl, HF.out⟩
  · have gl : ((l1.length : Int) != (l2.length : Int)) = true := by rw [bne_iff_ne]; omega
    have hrf : r = false := by rw [← HR.out]; exact decide_eq_false (fun e => hl (by rw [e]))
    subst hrf
    go_enter Try.func59, Try.ntmps59
    go_wp2_with fail
    go_ret
    exact ⟨rfl, Fr.refl _ _⟩
end Go.Proofs.Ytgomilodeaafdaa
namespace Go.Proofs.Ytgomilodeaafdaa
open Go.ChangeShapes Go.WideShapes Go.ChangeAt Go.RowKit Ds
/-- the names after so many sets -/
def cpGo9 : NM → Nat → List Pr → NM
  | N, _, [] => N
  | N, i, k :: ks => cpGo9 (setN (stepN N) k.1 false i) (i + 1) ks
theorem cpGo9_at {N : NM} {k : Nat} {l : List Pr} (h : k < l.length) : cpGo9 N k (l.drop k) = cpGo9 (setN (stepN N) (l[k]).1 false k) (k + 1) (l.drop (k + 1)) := by
  rw [List.drop_eq_getElem_cons h]
  rfl
theorem cp9_new {l : List Pr} {k : Nat} (hk : k < l.length) (hs : l.Pairwise ltP) : fdG (l[k]).1 (l.take k) = none := by
  refine fdG_no fun e he hek => ?_
  obtain ⟨j, hj, e1⟩ := List.mem_take_iff_getElem.1 he
  have h4 := List.pairwise_iff_getElem.1 hs j k (by omega) hk (by omega)
  unfold ltP at h4
  rw [e1, hek] at h4
  exact List.lt_irrefl _ h4
theorem cp9_next {l : List Pr} {k : Nat} (hk : k < l.length) (hs : l.Pairwise ltP) : setG (l.take k) (l[k]).1 (l[k]).2 = l.take (k + 1) := by
  rw [setG_none (cp9_new hk hs), List.take_succ_eq_append_getElem hk]
structure CpA9 (w w1 w2 wr : World) (r d : Nat) (l : List Pr) (T : NM) (k : Nat) (Fk : Nat → Prop) (Mk : DM) : Prop where
  f : RecF wr w.heap.size Fk r d Mk (l.take k)
  fr : Fr (fun j => w.heap.size ≤ j ∧ j < w1.heap.size) w2 wr
  away : ∀ j, Fk j → j < w1.heap.size ∨ w2.heap.size ≤ j
  todo : cpGo9 (nmM Mk) k (l.drop k) = T
  lens : Lens Mk 1048576
structure CpR9 (w w1 w2 wr : World) (mr : Nat) (l : List Pr) (T : NM) (k : Nat) (Fk : Nat → Prop) (Nk : NM) (lk : List Pr) : Prop where
  f : RrF wr w.heap.size mr Fk Nk (l.take k) lk
  fr : Fr (fun j => w.heap.size ≤ j ∧ j < w1.heap.size) w2 wr
  away : ∀ j, Fk j → j < w1.heap.size ∨ w2.heap.size ≤ j
  todo : cpGo9 Nk k (l.drop k) = T
section
variable {w w1 w2 wr wr' : World} {r d mr k : Nat} {l lk : List Pr} {T Nk : NM} {Fk : Nat → Prop} {Mk : DM}
theorem CpA9.quiet (h : CpA9 w w1 w2 wr r d l T k Fk Mk) (hf : Fr (fun _ => False) wr wr') : CpA9 w w1 w2 wr' r d l T k Fk Mk :=
  ⟨h.f.quiet hf, h.fr.wide hf (fun _ h => h.elim), h.away, h.todo, h.lens⟩
theorem CpR9.quiet (h : CpR9 w w1 w2 wr mr l T k Fk Nk lk) (hf : Fr (fun _ => False) wr wr') : CpR9 w w1 w2 wr' mr l T k Fk Nk lk :=
  ⟨h.f.quiet hf, h.fr.wide hf (fun _ h => h.elim), h.away, h.todo⟩
theorem cpA9_set (h : CpA9 w w1 w2 wr r d l T k Fk Mk) (hs1 : w.heap.size ≤ w1.heap.size) (hs2 : w1.heap.size ≤ w2.heap.size) (hk : k < l.length) (hn : l.Pairwise ltP) (hl : l.length ≤ 1048576) (hz : ∀ x ∈ l, Fits x) :
    Calls Try.prog 24 #[.pointer (some ⟨r, 0, none⟩), .string (l[k]).1, .string (l[k]).2] wr fun e w' => e = .returned (.tuple #[.bool true, .int .i64 0]) ∧ ∃ Fk Mk, CpA9 w w1 w2 w' r d l T (k + 1) Fk Mk := by
  have hal : (l.take k).length = k := by rw [List.length_take]; omega
  have hnew := cp9_new hk hn
  have hB : w.heap.size ≤ wr.heap.size := by have := h.fr.size; omega
  have hlike := h.f.like
  have hcn : Mk.n = k := by rw [hlike.count, hal]
  refine (recSet_new wr _ Fk r d Mk _ (l[k]).1 (l[k]).2 h.f hB (hz _ (List.getElem_mem hk)) hnew (by omega)).mono ?_
  rintro e w' ⟨rfl, t, b, hg⟩
  rw [cp9_next hk hn] at hg
  have hls : Lens (setM (stepM Mk) (l[k]).1 (vl (l[k]).2) t b) 1048576 := h.lens.step.set (inv_step Mk hlike.inv) (by rw [(step_lens Mk).2.2.2, hcn]; omega) _ _ t b
  refine ⟨rfl, _, _, hg.1, h.fr.wide hg.2 (fun j hj => ?_), fun j hj => ?_, ?_, hls⟩
  · rcases h.away j hj with h1 | h1
    · exact .inl ⟨(h.f.lt j hj).1, h1⟩
    · exact .inr h1
  · rcases hj with hj | hj
    · exact h.away j hj
    · have := h.fr.size; exact .inr (by omega)
  · rw [← h.todo, cpGo9_at hk, nm_set (inv_step Mk hlike.inv), nm_step, has_step hlike.inv, key9 hlike, hnew, (step_lens Mk).2.2.2, hcn]
    rfl
theorem cpR9_set (h : CpR9 w w1 w2 wr mr l T k Fk Nk lk) (hs1 : w.heap.size ≤ w1.heap.size) (hs2 : w1.heap.size ≤ w2.heap.size) (hk : k < l.length) (hn : l.Pairwise ltP) (hl : l.length ≤ 1048576) (hz : ∀ x ∈ l, Fits x) :
    Calls Try.prog 124 #[.pointer (some ⟨mr, 0, none⟩), .string (l[k]).1, .string (l[k]).2] wr fun e w' => e = .returned (.tuple #[.bool true, .int .i64 0]) ∧ ∃ Fk Nk lk, CpR9 w w1 w2 w' mr l T (k + 1) Fk Nk lk := by
  have hal : (l.take k).length = k := by rw [List.length_take]; omega
  have hnew := cp9_new hk hn
  have hB : w.heap.size ≤ wr.heap.size := by have := h.fr.size; omega
  refine (rrSet_any wr _ mr Fk Nk _ lk (l[k]).1 (l[k]).2 h.f hB (hz _ (List.getElem_mem hk))).mono ?_
  rintro e w' ⟨N', A', l', hg, hc⟩
  rw [hnew] at hc
  rcases hc with ⟨h9, -⟩ | ⟨-, h9, -⟩ | ⟨-, -, rfl, rfl, rfl⟩
  · cases h9
  · omega
  · have ht : l.take k ++ [((l[k]).1, (l[k]).2)] = l.take (k + 1) := (List.take_succ_eq_append_getElem hk).symm
    rw [ht] at hg
    refine ⟨rfl, _, _, _, hg.1, h.fr.wide hg.2 (fun j hj => ?_), fun j hj => ?_, ?_⟩
    · rcases h.away j hj with h1 | h1
      · exact .inl ⟨(h.f.lts j hj).1, h1⟩
      · exact .inr h1
    · rcases hj with hj | hj
      · exact h.away j hj
      · have := h.fr.size; exact .inr (by omega)
    · rw [← h.todo, cpGo9_at hk, L0P_len, hal]
end
section
variable {w0 w : World} {F F1 F2 : Nat → Prop} {r d mr : Nat} {M : DM} {A l : List Pr}
/-- Pairs of the record: what the document's holds -/
theorem bo9_pairs (h : Ha9 w0 w F F1 F2 r d mr M A (nmM M) A l) : Calls Try.prog 25 #[.pointer (some ⟨r, 0, none⟩)] w fun e w' => ∃ a c, e = .returned (.slice a l.length c) ∧ RowP w.heap.size w' (.slice a l.length c) l ∧ Fr (fun _ => False) w w' := by
  refine (pairs_any w _ F1 r d M A h.f).mono ?_
  rintro e w1 ⟨v, l', rfl, q1, q2, q3, q4⟩
  obtain rfl : l' = l := sorted_one (q1.trans h.m.perm.symm) q2 h.m.rise
  rw [← q1.length_eq] at q3
  obtain ⟨a, c, rfl⟩ := ow_sliceN q3
  exact ⟨a, c, rfl, q3, q4⟩
theorem bo9_rpairs (h : Ha9 w0 w F F1 F2 r d mr M A (nmM M) A l) : Calls Try.prog 60 #[.pointer (some ⟨mr, 0, none⟩)] w fun e w' => ∃ a c, e = .returned (.slice a l.length c) ∧ RowP w.heap.size w' (.slice a l.length c) l ∧ Fr (fun _ => False) w w' := by
  obtain ⟨p, Fd, X, av, hx⟩ := h.m.x
  refine (rrPairs_any w _ mr p F2 Fd _ _ l X av hx (by have := h.m.few; omega)).mono ?_
  rintro e w1 ⟨v, rfl, q3, q4⟩
  obtain ⟨a, c, rfl⟩ := ow_sliceN q3
  exact ⟨a, c, rfl, q3, q4⟩
set_option maxRecDepth 100000 in
set_option maxHeartbeats 2000000 in
theorem recCopy_any (h : Ha9 w0 w F F1 F2 r d mr M A (nmM M) A l) : Calls Try.prog 56 #[.pointer (some ⟨r, 0, none⟩)] w fun e w' => ∃ r2 d2 M2, e = .returned (.pointer (some ⟨r2, 0, none⟩)) ∧
    RecF w' w.heap.size (fun k => w.heap.size ≤ k ∧ k < w'.heap.size) r2 d2 M2 l ∧ nmM M2 = cpGo9 ⟨M.seed, [], [], 0⟩ 0 l ∧ Lens M2 1048576 ∧ Fr (fun _ => False) w w' := by
  have c0 := h.f.seed0
  have HLL : Hid (l.length ≤ 1048576) := h.m.few
  have HZ := Lib.hid h.m.fit
  have HND := Lib.hid h.m.rise
  have HM : Hid (∀ W, Fr (fun _ => False) w W → Calls Try.prog 25 #[.pointer (some ⟨r, 0, none⟩)] W fun e w' => ∃ a c, e = .returned (.slice a l.length c) ∧ RowP W.heap.size w' (.slice a l.length c) l ∧ Fr (fun _ => False) W w') := fun W hf => bo9_pairs (h.quiet hf)
  have HN := Lib.hid (recNew_any w M.seed)
  obtain ⟨sd, hsd⟩ : ∃ s, M.seed = s := ⟨_, rfl⟩
  rw [hsd] at c0 HN ⊢
  obtain ⟨T, hT⟩ : ∃ T, cpGo9 ⟨sd, [], [], 0⟩ 0 l = T := ⟨_, rfl⟩
  have HT := Lib.hid hT
  rw [hT]
  clear h hsd hT
  go_enter Try.func56, Try.ntmps56
  go_wp2_with fail
  refine HN.out.mono ?_
  rintro e w1 ⟨r2, d2, rfl, h2, hb⟩
  have hf1 := fr_bel0 hb
  have HF1 := Lib.hid hf1
  have HS1 : Hid (w.heap.size ≤ w1.heap.size) := hf1.size
  have H2 := Lib.hid h2
  have HM1 := Lib.hid (HM.out w1 hf1)
  clear h2 hb hf1 HM HN
  go_wp2_with fail
  refine HM1.out.mono ?_
  rintro e w2 ⟨aa, ac, rfl, ha, hf2⟩
  have HA := Lib.hid ha
  have HF2 := Lib.hid (HF1.out.trans hf2 (fun _ h _ => h))
  have HS2 : Hid (w1.heap.size ≤ w2.heap.size) := hf2.size
  have H3 : Hid (CpA9 w w1 w2 w2 r2 d2 l T 0 (fun k => w.heap.size ≤ k ∧ k < w1.heap.size) ⟨sd, 0, [], 0, [], 0, 0⟩) := ⟨H2.out.quiet hf2, Fr.refl _ _, fun j hj => .inl hj.2, HT.out, by unfold Lens; simp⟩
  clear ha hf2 HM1 H2
  go_wp2_with fail
  go_loopw [17] (fun i wr => ∃ (k : Nat) (Fk : Nat → Prop) (Mk : DM), i = .int .i64 k ∧ k ≤ l.length ∧ Hid (CpA9 w w1 w2 wr r2 d2 l T k Fk Mk)) (fun i _ => l.length - (intOf i).toNat)
  case atStart => exact ⟨0, _, _, rfl, by omega, H3⟩
  case round =>
    obtain ⟨k, Fk, Mk, rfl, hk, HC⟩ := hrel
    obtain ⟨wo, rfl⟩ : ∃ wo, wo = wr := ⟨_, rfl⟩
    clear H3 c0
    have hll9 : l.length ≤ 1048576 := HLL.out
    by_cases hlt : k < l.length
    · obtain ⟨g, off, e0, hc, hc2⟩ := pr_at (RdC.of_owns (ow_fr HA.out HC.out.fr (fun g hg hj => by have := (own_blk HA.out hg).1; omega))) k hlt
      cases e0
      have HAD : Hid (∀ W, Fr (fun _ => False) wo W → Calls Try.prog 24 #[.pointer (some ⟨r2, 0, none⟩), .string (l[k]).1, .string (l[k]).2] W fun e w' => e = .returned (.tuple #[.bool true, .int .i64 0]) ∧ ∃ Fk Mk, CpA9 w w1 w2 w' r2 d2 l T (k + 1) Fk Mk) := fun W hf => cpA9_set (HC.out.quiet hf) HS1.out HS2.out hlt HND.out HLL.out HZ.out
      obtain ⟨x, hx⟩ : ∃ x, l[k] = x := ⟨_, rfl⟩
      rw [hx] at hc hc2 HAD
      obtain ⟨x0, x1⟩ := x
      dsimp only at hc hc2 HAD
      have b0 : (0 : Int) ≤ (k : Int) := by omega
      have b1 : (k : Int) < (l.length : Int) := by omega
      clear hx
      go_upto_region 7 with (fail)
      go_wp2_with fail
      refine (HAD.out _ (Fr.alloc _ _ _)).mono ?_
      rintro e w4 ⟨rfl, F4, M4, h4⟩
      have H4 := Lib.hid h4
      clear h4
      go_wp2_with fail
      go_roundw
      case rel => exact ⟨k + 1, F4, M4, by go_num, by omega, H4⟩
      case measure => simp [intOf]; omega
    · obtain rfl : k = l.length := by omega
      go_wp2_with fail
      go_ret
      have hF := HC.out.f
      rw [List.take_length] at hF
      refine ⟨r2, d2, Mk, rfl, hF.wide (fun j hj => hF.lt j hj) (fun j hj => hj), ?_, HC.out.lens, ?_⟩
      · have := HC.out.todo; rw [List.drop_length] at this; exact this
      · exact HF2.out.wide HC.out.fr (fun j hj => .inr hj.1)
end
set_option maxRecDepth 100000 in
set_option maxHeartbeats 2000000 in
theorem rrCopy_any {w : World} {B mr : Nat} {F : Nat → Prop} {N : NM} {A l : List Pr} (h : RrF w B mr F N A l) : Calls Try.prog 57 #[.pointer (some ⟨mr, 0, none⟩)] w fun e w' => ∃ mr2 l2, e = .returned (.pointer (some ⟨mr2, 0, none⟩)) ∧
    RrF w' w.heap.size mr2 (fun k => w.heap.size ≤ k ∧ k < w'.heap.size) (cpGo9 ⟨N.seed, [], [], 0⟩ 0 l) l l2 ∧ Fr (fun _ => False) w w' := by
  obtain ⟨p, Fd, X, av, hx⟩ := h.x
  have HLL : Hid (l.length ≤ 1048576) := h.few
  have HZ := Lib.hid h.fit
  have HND := Lib.hid h.rise
  have HN := Lib.hid (rrNew_any N.seed w)
  have HX := Lib.hid hx
  obtain ⟨aa, ac, rfl⟩ := ow_sliceN hx.row
  have c0 := hx.cells.1
  obtain ⟨sd, hsd⟩ : ∃ s, N.seed = s := ⟨_, rfl⟩
  rw [hsd] at c0 HN ⊢
  obtain ⟨T, hT⟩ : ∃ T, cpGo9 ⟨sd, [], [], 0⟩ 0 l = T := ⟨_, rfl⟩
  have HT := Lib.hid hT
  rw [hT]
  clear h hx hsd hT
  go_enter Try.func57, Try.ntmps57
  go_wp2_with fail
  refine HN.out.mono ?_
  rintro e w1 ⟨mr2, p2, Fd2, X2, rfl, h2, hf1⟩
  have HF1 := Lib.hid hf1
  have HS1 : Hid (w.heap.size ≤ w1.heap.size) := hf1.size
  have HX1 := Lib.hid (HX.out.quiet hf1)
  have H3 : Hid (CpR9 w w1 w1 w1 mr2 l T 0 (fun k => w.heap.size ≤ k ∧ k < w1.heap.size) ⟨sd, [], [], 0⟩ []) := ⟨⟨⟨_, _, _, _, h2⟩, List.Pairwise.nil, List.Perm.nil, by simp, by simp, by simp, by simp⟩, Fr.refl _ _, fun j hj => .inl hj.2, HT.out⟩
  have HLT : Hid (∀ j, F j → j < w.heap.size) := fun j hj => (HX.out.lt j hj).2
  clear h2 hf1 HN c0
  go_wp2_with fail
  go_loopw [4] (fun i wr => ∃ (k : Nat) (Fk : Nat → Prop) (Nk : NM) (lk : List Pr), i = .int .i64 k ∧ k ≤ l.length ∧ Hid (CpR9 w w1 w1 wr mr2 l T k Fk Nk lk)) (fun i _ => l.length - (intOf i).toNat)
  case atStart => exact ⟨0, _, _, _, rfl, by omega, H3⟩
  case round =>
    obtain ⟨k, Fk, Nk, lk, rfl, hk, HC⟩ := hrel
    obtain ⟨wo, rfl⟩ : ∃ wo, wo = wr := ⟨_, rfl⟩
    clear H3
    have HXO := Lib.hid (HX1.out.other HC.out.fr (fun j hj ht => by have := HLT.out j hj; omega))
    have c1 := HXO.out.cells.2.1
    have hll9 : l.length ≤ 1048576 := HLL.out
    by_cases hlt : k < l.length
    · obtain ⟨g, off, e0, hc, hc2⟩ := pr_at (RdC.of_owns HXO.out.row) k hlt
      cases e0
      have HAD := Lib.hid (cpR9_set (HC.out.quiet (Fr.drew (fun _ => False) wo)) HS1.out (Nat.le_refl _) hlt HND.out HLL.out HZ.out)
      obtain ⟨x, hx⟩ : ∃ x, l[k] = x := ⟨_, rfl⟩
      rw [hx] at hc hc2 HAD
      obtain ⟨x0, x1⟩ := x
      dsimp only at hc hc2 HAD
      have b0 : (0 : Int) ≤ (k : Int) := by omega
      have b1 : (k : Int) < (l.length : Int) := by omega
      clear hx
      go_upto_region 7 with (fail)
      go_region_law (first
        | (go_simp; go_at_call 124; ((with_reducible refine HAD.out.mono ?_); rintro e w4 ⟨rfl, F4, N4, l4, h4⟩; have H4 := Lib.hid h4; clear h4; dsimp only)))
      all_goals
        go_wp2_with fail
        go_roundw
        case rel => exact ⟨k + 1, F4, N4, l4, by go_num, by omega, H4⟩
        case measure => simp [intOf]; omega
    · obtain rfl : k = l.length := by omega
      go_wp2_with fail
      go_ret
      have h1 := HC.out.todo
      rw [List.drop_length] at h1
      have h3 : Nk = T := h1
      have hF := HC.out.f
      rw [h3, List.take_length] at hF
      refine ⟨mr2, lk, rfl, ?_, HF1.out.wide HC.out.fr (fun j hj => .inr hj.1)⟩
      exact hF.wide (fun j hj => hF.lts j hj) (fun j hj => hj)
end Go.Proofs.Ytgomilodeaafdaa
namespace Go.Proofs.Ytgomilodeaafdaa
open Go.ChangeShapes Go.WideShapes Go.ChangeAt Go.RowKit Ds
section
variable {w0 w w' : World} {F F1 F2 : Nat → Prop} {r d mr : Nat} {M : DM} {A l : List Pr}
theorem box9 (o : St9B) : ∃ (kd who : Int) (f s : ByteArray) (n : UInt64) (ct : Int), (st9 o).toArray = #[.int .i64 kd, .int .i64 who, .string f, .string s, .int .u64 (wd n), .int .i64 ct] ∧ f.size ≤ maxLen ∧ s.size ≤ maxLen ∧ InI ct := ⟨_, _, _, _, _, _, rfl, o.2.1, o.2.2.1, o.2.2.2⟩
theorem sampV_form (l : List Pr) (n : UInt64) : ∃ x b, sampV l n = .tuple #[.string x, .bool b] := by
  unfold sampV
  split
  · exact ⟨_, _, rfl⟩
  · exact ⟨_, _, rfl⟩
set_option maxRecDepth 100000 in
set_option maxHeartbeats 4000000 in
theorem asked9_any (h : Bo9 w0 w F r mr A) (kd who : Int) (f s : ByteArray) (n : UInt64) (ct : Int) (hf0 : f.size ≤ maxLen) (hs0 : s.size ≤ maxLen) (hct : InI ct) :
    Calls Try.prog 58 #[.pointer (some ⟨r, 0, none⟩), .pointer (some ⟨mr, 0, none⟩), .agg #[.int .i64 kd, .int .i64 who, .string f, .string s, .int .u64 (wd n), .int .i64 ct]] w fun e w' => e = .returned (.bool true) ∧ BoTo9 w0 w F r mr w' := by
  obtain ⟨W0, hW0⟩ : ∃ W0, w.alloc (.cells #[.int .i64 kd, .int .i64 who, .string f, .string s, .int .u64 (wd n), .int .i64 ct] 55) = W0 := ⟨_, rfl⟩
  have hb : W0.heap[w.heap.size]? = some (.cells #[.int .i64 kd, .int .i64 who, .string f, .string s, .int .u64 (wd n), .int .i64 ct] 55 (0, 0)) := by rw [← hW0]; exact alloc_new w _
  have HQ0 : Hid (Fr (fun _ => False) w W0) := by rw [← hW0]; exact Fr.alloc _ _ _
  have hLT : ∀ k, F k → k < w.heap.size := fun k hk => (h.lts.1 k hk).2
  have HL := Lib.hid h.lts.1
  have HLT : Hid (∀ k, F k → k ≠ w.heap.size) := fun k hk e => by have := hLT k hk; omega
  have HB := Lib.hid (h.quiet HQ0.out)
  have HSB : Hid (w0.heap.size ≤ w.heap.size) := h.lts.2.size
  have HDONE : Hid (∀ w', BoTo9 w0 W0 F r mr w' → BoTo9 w0 w F r mr w') := fun w' hb => BoTo9.pre HL.out HSB.out HQ0.out hb
  have HK : Hid (∀ V, Fr F W0 V → V.cell? ⟨w.heap.size, 2, none⟩ = some (.string f) ∧ V.cell? ⟨w.heap.size, 3, none⟩ = some (.string s) ∧ V.cell? ⟨w.heap.size, 4, none⟩ = some (.int .u64 (wd n)) ∧ V.cell? ⟨w.heap.size, 5, none⟩ = some (.int .i64 ct)) := fun V hf =>
    ⟨hf.cell (cell_of_blk hb 2) (fun e => HLT.out _ e rfl), hf.cell (cell_of_blk hb 3) (fun e => HLT.out _ e rfl), hf.cell (cell_of_blk hb 4) (fun e => HLT.out _ e rfl), hf.cell (cell_of_blk hb 5) (fun e => HLT.out _ e rfl)⟩
  have d0 : W0.cell? ⟨w.heap.size, 0, none⟩ = some (.int .i64 kd) := cell_of_blk hb 0
  obtain ⟨d2, d3, d4, d5⟩ := HK.out W0 (Fr.refl _ _)
  obtain ⟨n0, hn0⟩ : ∃ x, wd n = x := ⟨_, rfl⟩
  have HN0 := Lib.hid hn0
  rw [hn0] at hW0 HK d4
  rw [hn0]
  clear hb h hLT hn0
  go_enter Try.func58, Try.ntmps58
  by_cases h0 : kd = 0
  · subst h0
    obtain ⟨b, c, hc⟩ := bo9_set HB.out f s hf0 hs0
    have HC := Lib.hid hc
    have gb : (b == b) = true := by cases b <;> rfl
    have gc : (c == c) = true := beq_self_eq_true _
    clear hc
    go_wp2_with fail
    refine HC.out.mono ?_
    rintro e w2 ⟨rfl, hf2, hn2⟩
    have HN2 := Lib.hid (hn2 w2 (Fr.refl _ _))
    clear d2 d3 d4 d5
    obtain ⟨d2, d3, -, -⟩ := HK.out w2 hf2
    clear hf2 hn2 HC
    go_wp2_with fail
    refine HN2.out.mono ?_
    rintro e w3 ⟨rfl, hb3⟩
    have HB3 := Lib.hid hb3
    clear hb3 d2 d3
    go_wp2_with fail
    go_ret
    exact ⟨rfl, HDONE.out _ HB3.out⟩
  have g0 : (kd == 0) = false := beq_eq_false_iff_ne.2 h0
  by_cases h1 : kd = 1
  · subst h1
    obtain ⟨x, b, hc⟩ := bo9_get HB.out f hf0
    have HC := Lib.hid hc
    have gb : (b == b) = true := by cases b <;> rfl
    have gx : (x.toList == x.toList) = true := beq_self_eq_true _
    clear hc
    go_wp2_with fail
    refine HC.out.mono ?_
    rintro e w2 ⟨rfl, hf2, hn2⟩
    have HN2 := Lib.hid (hn2 w2 (Fr.refl _ _))
    clear d2 d3 d4 d5
    obtain ⟨d2, -, -, -⟩ := HK.out w2 hf2
    clear hf2 hn2 HC
    go_wp2_with fail
    refine HN2.out.mono ?_
    rintro e w3 ⟨rfl, hb3⟩
    have HB3 := Lib.hid hb3
    clear hb3 d2
    go_wp2_with fail
    go_ret
    exact ⟨rfl, HDONE.out _ HB3.out⟩
  have g1 : (kd == 1) = false := beq_eq_false_iff_ne.2 h1
  by_cases h2 : kd = 2
  · subst h2
    obtain ⟨b, hc⟩ := bo9_del HB.out f hf0
    have HC := Lib.hid hc
    have gb : (b == b) = true := by cases b <;> rfl
    clear hc
    go_wp2_with fail
    refine HC.out.mono ?_
    rintro e w2 ⟨rfl, hf2, hn2⟩
    have HN2 := Lib.hid (hn2 w2 (Fr.refl _ _))
    clear d2 d3 d4 d5
    obtain ⟨d2, -, -, -⟩ := HK.out w2 hf2
    clear hf2 hn2 HC
    go_wp2_with fail
    refine HN2.out.mono ?_
    rintro e w3 ⟨rfl, hb3⟩
    have HB3 := Lib.hid hb3
    clear hb3 d2
    go_wp2_with fail
    go_ret
    exact ⟨rfl, HDONE.out _ HB3.out⟩
  have g2 : (kd == 2) = false := beq_eq_false_iff_ne.2 h2
  have HSTAY : Hid (∀ w', Fr (fun _ => False) W0 w' → BoTo9 w0 W0 F r mr w') := fun w' hf => HB.out.stay hf
  obtain ⟨F1, F2, d, M, l, hh⟩ := HB.out
  have H := Lib.hid hh
  have hfew : l.length ≤ 1048576 := hh.m.few
  have HFL : Hid (∀ k, F k → k < W0.heap.size) := fun k hk => (hh.lt k hk).2
  clear hh
  by_cases h3 : kd = 3
  · subst h3
    clear d2 d3 d4 d5
    have HP1 := Lib.hid (bo9_pairs H.out)
    go_wp2_with fail
    refine HP1.out.mono ?_
    rintro e w1 ⟨aa, ac, rfl, ha, hf1⟩
    have HA1 := Lib.hid ha
    have HF1 := Lib.hid hf1
    have HS1 : Hid (W0.heap.size ≤ w1.heap.size) := hf1.size
    have HP2 := Lib.hid (bo9_pairs (H.out.quiet hf1))
    clear ha hf1 HP1
    go_wp2_with fail
    refine HP2.out.mono ?_
    rintro e w2 ⟨ba, bc, rfl, hb2, hf2⟩
    have HB2 := Lib.hid hb2
    have HA2 := Lib.hid (ow_fr HA1.out hf2 (fun _ _ h => h))
    have HF2 := Lib.hid (HF1.out.trans hf2 (fun _ h _ => h))
    have HS2 : Hid (w1.heap.size ≤ w2.heap.size) := hf2.size
    have HP3 := Lib.hid (bo9_rpairs (H.out.quiet HF2.out))
    have HLA : Hid (∀ k, (Value.slice aa l.length ac).ownBlock = some k → W0.heap.size ≤ k ∧ k < w1.heap.size) := fun k hk => ⟨(own_blk HA1.out hk).1, (own_blk HA1.out hk).2.1⟩
    have HLB : Hid (∀ k, (Value.slice ba l.length bc).ownBlock = some k → w1.heap.size ≤ k ∧ k < w2.heap.size) := fun k hk => ⟨(own_blk hb2 hk).1, (own_blk hb2 hk).2.1⟩
    clear hb2 hf2 HP2 HA1
    go_wp2_with fail
    refine HP3.out.mono ?_
    rintro e w3 ⟨ca, cc, rfl, hc3, hf3⟩
    have HC3 := Lib.hid hc3
    have HA3 := Lib.hid (ow_fr HA2.out hf3 (fun _ _ h => h))
    have HB3 := Lib.hid (ow_fr HB2.out hf3 (fun _ _ h => h))
    have HF3 := Lib.hid (HF2.out.trans hf3 (fun _ h _ => h))
    have HSA := Lib.hid (samePairs_any w3 _ _ l l (RdC.of_owns HA3.out) (RdC.of_owns hc3))
    rw [decide_eq_true rfl] at HSA
    have HZ3 : Hid (w2.heap.size ≤ w3.heap.size) := hf3.size
    clear hc3 hf3 HP3 HA2 HB2
    go_wp2_with fail
    refine HSA.out.mono ?_
    rintro e w4 ⟨rfl, hf4⟩
    have HA4 := Lib.hid (ow_fr HA3.out hf4 (fun _ _ h => h))
    have HB4 := Lib.hid (ow_fr HB3.out hf4 (fun _ _ h => h))
    have HC4 := Lib.hid (ow_fr HC3.out hf4 (fun _ _ h => h))
    have HF4 := Lib.hid (HF3.out.trans hf4 (fun _ h _ => h))
    have HSB2 := Lib.hid (samePairs_any w4 _ _ l l (RdC.of_owns HB4.out) (RdC.of_owns HC4.out))
    rw [decide_eq_true rfl] at HSB2
    have HZ4 : Hid (w3.heap.size ≤ w4.heap.size) := hf4.size
    clear hf4 HSA HA3 HB3 HC3
    go_wp2_with fail
    refine HSB2.out.mono ?_
    rintro e w5 ⟨rfl, hf5⟩
    have HA5 := Lib.hid (ow_fr HA4.out hf5 (fun _ _ h => h))
    have HB5 := Lib.hid (ow_fr HB4.out hf5 (fun _ _ h => h))
    have HC5 := Lib.hid (ow_fr HC4.out hf5 (fun _ _ h => h))
    have HF5 := Lib.hid (HF4.out.trans hf5 (fun _ h _ => h))
    have HSP := Lib.hid (spoilP_any w5 _ _ l HA5.out HF5.out.size (by omega))
    have HZ5 : Hid (w4.heap.size ≤ w5.heap.size) := hf5.size
    clear hf5 HSB2 HA4 HB4 HC4
    go_wp2_with fail
    refine HSP.out.mono ?_
    rintro e w6 ⟨⟨u6, rfl⟩, hf6⟩
    have HF6 := Lib.hid (HF5.out.wide hf6 (fun k hk => .inr (HLA.out k hk).1))
    have HB6 := Lib.hid (ow_fr HB5.out hf6 (fun g hg hk => by have := (HLB.out g hg).1; have := (HLA.out g hk).2; omega))
    have HC6 := Lib.hid (ow_fr HC5.out hf6 (fun g hg hk => by have := (own_blk HC5.out hg).1; have := (HLA.out g hk).2; have := HS2.out; omega))
    have HSC := Lib.hid (samePairs_any w6 _ _ l l (RdC.of_owns HB6.out) (RdC.of_owns HC6.out))
    rw [decide_eq_true rfl] at HSC
    have HZ6 : Hid (w5.heap.size ≤ w6.heap.size) := hf6.size
    clear hf6 HSP HA5 HB5 HC5
    go_wp2_with fail
    refine HSC.out.mono ?_
    rintro e w7 ⟨rfl, hf7⟩
    have HB7 := Lib.hid (ow_fr HB6.out hf7 (fun _ _ h => h))
    have HC7 := Lib.hid (ow_fr HC6.out hf7 (fun _ _ h => h))
    have HF7 := Lib.hid (HF6.out.trans hf7 (fun _ h _ => h))
    have hs7 : w1.heap.size ≤ w7.heap.size := by have h1 := HS2.out; have h2 := HZ3.out; have h3 := HZ4.out; have h4 := HZ5.out; have h5 := HZ6.out; have h6 := hf7.size; omega
    have HSP2 := Lib.hid (spoilP_any w7 _ _ l HB7.out hs7 (by omega))
    clear hf7 HSC HB6 HC6 hs7
    go_wp2_with fail
    refine HSP2.out.mono ?_
    rintro e w8 ⟨⟨u8, rfl⟩, hf8⟩
    have HF8 := Lib.hid (HF7.out.wide hf8 (fun k hk => .inr (by have := (HLB.out k hk).1; have := HS1.out; omega)))
    have HC8 := Lib.hid (ow_fr HC7.out hf8 (fun g hg hk => by have := (own_blk HC7.out hg).1; have := (HLB.out g hk).2; omega))
    have HP9 := Lib.hid (bo9_pairs (H.out.quiet HF8.out))
    clear hf8 HSP2 HB7 HC7
    go_wp2_with fail
    refine HP9.out.mono ?_
    rintro e w9 ⟨ea, ec, rfl, he9, hf9⟩
    have HF9 := Lib.hid (HF8.out.trans hf9 (fun _ h _ => h))
    have HSD := Lib.hid (samePairs_any w9 _ _ l l (RdC.of_owns he9) (RdC.of_owns (ow_fr HC8.out hf9 (fun _ _ h => h))))
    rw [decide_eq_true rfl] at HSD
    clear he9 hf9 HP9 HC8
    go_wp2_with fail
    refine HSD.out.mono ?_
    rintro e w10 ⟨rfl, hf10⟩
    have HF10 := Lib.hid (HF9.out.trans hf10 (fun _ h _ => h))
    clear hf10
    go_wp2_with fail
    go_ret
    exact ⟨rfl, HDONE.out _ (HSTAY.out _ HF10.out)⟩
  have g3 : (kd == 3) = false := beq_eq_false_iff_ne.2 h3
  by_cases h4 : kd = 4
  · subst h4
    obtain ⟨x, b, hx⟩ := sampV_form l n
    have HS1 := Lib.hid (sample_any W0 _ F1 r d M A n H.out.f l H.out.m.perm H.out.m.rise)
    have HS2 : Hid (∀ V, Fr (fun _ => False) W0 V → Calls Try.prog 128 #[.pointer (some ⟨mr, 0, none⟩), .int .u64 n0] V fun e w' => e = .returned (.tuple #[.string x, .bool b]) ∧ Fr (fun _ => False) V w') := fun V hf => by
      obtain ⟨p, Fd, X, av, hxx⟩ := (H.out.quiet hf).m.x
      have h9 := rrSample_any V _ mr p F2 Fd _ _ l X av hxx n
      rw [hx, HN0.out] at h9
      exact h9
    rw [hx, HN0.out] at HS1
    have gb : (b == b) = true := by cases b <;> rfl
    have gx : (x.toList == x.toList) = true := beq_self_eq_true _
    clear hx
    go_wp2_with fail
    refine HS1.out.mono ?_
    rintro e w2 ⟨rfl, hf2⟩
    have HN2 := Lib.hid (HS2.out w2 hf2)
    have HF2 := Lib.hid hf2
    clear d2 d3 d4 d5
    obtain ⟨-, -, d4, -⟩ := HK.out w2 (hf2.mono (fun _ h _ => h.elim))
    clear hf2 HS1 HS2
    go_wp2_with fail
    refine HN2.out.mono ?_
    rintro e w3 ⟨rfl, hf3⟩
    have HF3 := Lib.hid (HF2.out.trans hf3 (fun _ h _ => h))
    clear hf3 d4
    go_wp2_with fail
    go_ret
    exact ⟨rfl, HDONE.out _ (HSTAY.out _ HF3.out)⟩
  have g4 : (kd == 4) = false := beq_eq_false_iff_ne.2 h4
  by_cases h5 : kd = 5
  · subst h5
    have hlo : M.old.length ≤ 2097152 := by have := H.out.lens.1; omega
    have hly : M.young.length ≤ 2097152 := by have := H.out.lens.2; omega
    have hn : M.n ≤ 1048576 := by rw [H.out.f.like.count]; exact H.out.f.len
    have HS1 := Lib.hid (recScan_any W0 _ F1 r d M A n ct H.out.f hct)
    have HS2 : Hid (∀ V, Fr (fun _ => False) W0 V → Calls Try.prog 129 #[.pointer (some ⟨mr, 0, none⟩), .int .u64 n0, .int .i64 ct] V fun e w' => ∃ u, e = .returned (.tuple #[.int .u64 ((scanK M n.toNat ct).1 : Nat), u]) ∧ RowS V.heap.size w' u (scanK M n.toNat ct).2 ∧ Fr (fun _ => False) V w') := fun V hf => by
      obtain ⟨p, Fd, X, av, hxx⟩ := (H.out.quiet hf).m.x
      have h9 := rrScan_any V _ mr p F2 Fd _ l X av M hxx H.out.f.like.inv hlo hly hn n ct hct.1 hct.2
      rw [HN0.out] at h9
      exact h9
    rw [HN0.out] at HS1
    obtain ⟨R, hR⟩ : ∃ R, scanK M n.toNat ct = R := ⟨_, rfl⟩
    rw [hR] at HS1 HS2
    obtain ⟨R1, RL⟩ := R
    have HS1b : Hid (Calls Try.prog 33 #[.pointer (some ⟨r, 0, none⟩), .int .u64 n0, .int .i64 ct] W0 fun e w' => ∃ v, e = .returned (.tuple #[.int .u64 (R1 : Int), v]) ∧ RowS W0.heap.size w' v RL ∧ Below W0.heap.size W0 w') := HS1.out
    have HS2b : Hid (∀ V, Fr (fun _ => False) W0 V → Calls Try.prog 129 #[.pointer (some ⟨mr, 0, none⟩), .int .u64 n0, .int .i64 ct] V fun e w' => ∃ u, e = .returned (.tuple #[.int .u64 (R1 : Int), u]) ∧ RowS V.heap.size w' u RL ∧ Fr (fun _ => False) V w') := HS2.out
    have gR : ((R1 : Int) == (R1 : Int)) = true := beq_self_eq_true _
    clear hR HS1 HS2 hlo hly hn
    go_wp2_with fail
    refine HS1b.out.mono ?_
    rintro e w2 ⟨v, rfl, hv, hb2⟩
    have hf2 := fr_bel0 hb2
    have hv2 : w2.ownsRow W0.heap.size 9 1 v RL.length (RL.map .string) := hv
    obtain ⟨va, vc, rfl⟩ := ow_sliceN hv2
    have HV := Lib.hid hv2
    have HF2 := Lib.hid hf2
    have HN2 := Lib.hid (HS2b.out w2 hf2)
    clear d2 d3 d4 d5
    obtain ⟨-, -, d4, d5⟩ := HK.out w2 (hf2.mono (fun _ h _ => h.elim))
    clear hv hv2 hb2 hf2 HS1b HS2b
    go_wp2_with fail
    refine HN2.out.mono ?_
    rintro e w3 ⟨u, rfl, hu, hf3⟩
    have hu2 : w3.ownsRow w2.heap.size 9 1 u RL.length (RL.map .string) := hu
    obtain ⟨ua, uc, rfl⟩ := ow_sliceN hu2
    have HF3 := Lib.hid (HF2.out.trans hf3 (fun _ h _ => h))
    have HSM := Lib.hid (same9_any w3 _ _ RL RL (RdC.of_owns (ow_fr HV.out hf3 (fun _ _ h => h))) (RdC.of_owns hu2))
    rw [decide_eq_true rfl] at HSM
    clear hu hu2 hf3 d4 d5 HN2
    go_wp2_with fail
    refine HSM.out.mono ?_
    rintro e w' ⟨rfl, m, rfl⟩
    go_wp2_with fail
    go_ret
    exact ⟨rfl, HDONE.out _ (HSTAY.out _ (HF3.out.thenDrewN m))⟩
  have g5 : (kd == 5) = false := beq_eq_false_iff_ne.2 h5
  clear d2 d3 d4 d5
  obtain ⟨p, Fd, X, av, hxx⟩ := H.out.m.x
  by_cases h6 : kd = 6
  · subst h6
    have HS1 := Lib.hid (recCost_any W0 _ F1 r d M A H.out.f)
    have HS2 := Lib.hid (rrCost_any W0 _ mr p F2 Fd _ _ l X av hxx hfew H.out.m.fit)
    rw [← costP_perm H.out.m.perm] at HS1
    obtain ⟨cv, hcv⟩ : ∃ c, costP l = c := ⟨_, rfl⟩
    rw [hcv] at HS1 HS2
    have gR : ((cv : Int) == (cv : Int)) = true := beq_self_eq_true _
    clear hcv hxx
    go_wp2_with fail
    refine HS1.out.mono ?_
    rintro e w' ⟨rfl, rfl⟩
    go_wp2_with fail
    refine HS2.out.mono ?_
    rintro e w3 ⟨rfl, hf3⟩
    have HF3 := Lib.hid hf3
    clear hf3
    go_wp2_with fail
    go_ret
    exact ⟨rfl, HDONE.out _ (HSTAY.out _ HF3.out)⟩
  have g6 : (kd == 6) = false := beq_eq_false_iff_ne.2 h6
  have HS1 := Lib.hid (recLen_any W0 _ F1 r d M A H.out.f)
  have HS2 := Lib.hid (rrLen_any W0 _ mr p F2 Fd _ _ l X av hxx)
  rw [← H.out.m.perm.length_eq] at HS1
  have gR : ((l.length : Int) == (l.length : Int)) = true := beq_self_eq_true _
  clear hxx
  go_wp2_with fail
  refine HS1.out.mono ?_
  rintro e w' ⟨rfl, rfl⟩
  go_wp2_with fail
  refine HS2.out.mono ?_
  rintro e w' ⟨rfl, rfl⟩
  go_wp2_with fail
  go_ret
  exact ⟨rfl, HDONE.out _ (HSTAY.out _ (Fr.refl _ _))⟩
end
end Go.Proofs.Ytgomilodeaafdaa
namespace Go.Proofs.Ytgomilodeaafdaa
open Go.ChangeShapes Go.WideShapes Go.ChangeAt Go.RowKit Ds
structure Q9 where
  r : Nat
  m : Nat
  F : Nat → Prop
  A : List Pr
abbrev ptrV (i : Nat) : Value := .pointer (some ⟨i, 0, none⟩)
abbrev iv9 (a b : Nat) : Nat → Prop := fun k => a ≤ k ∧ k < b
/-- the pairs, each in its own memory, none in the rows' blocks -/
structure Ps9 (w0 w : World) (vr vm : Value) (ps : List Q9) : Prop where
  fr : Fr (fun _ => False) w0 w
  one : ∀ (i : Nat) (p : Q9), ps[i]? = some p → Bo9 w0 w p.F p.r p.m p.A ∧ Aw p.F vr ∧ Aw p.F vm
  dis : ∀ (i j : Nat) (p q : Q9), ps[i]? = some p → ps[j]? = some q → i ≠ j → ∀ k, p.F k → ¬ q.F k
/-- two rows of pointers -/
structure Rw9 (w0 w : World) (vr vm : Value) (rs ms : List Nat) : Prop where
  rf : w.ownsRow w0.heap.size 40 1 vr rs.length (rs.map ptrV)
  rm : w.ownsRow w0.heap.size 96 1 vm ms.length (ms.map ptrV)
section
variable {w0 w w' w1 w2 w3 : World} {vr vm vr' vm' : Value} {ps : List Q9} {rs ms : List Nat} {T : Nat → Prop}
theorem Rw9.quiet (h : Rw9 w0 w vr vm rs ms) (hf : Fr (fun _ => False) w w') : Rw9 w0 w' vr vm rs ms := ⟨ow_fr h.rf hf (fun _ _ h => h), ow_fr h.rm hf (fun _ _ h => h)⟩
theorem Rw9.keep (h : Rw9 w0 w vr vm rs ms) (hf : Fr T w w') (h1 : Aw T vr) (h2 : Aw T vm) : Rw9 w0 w' vr vm rs ms := ⟨ow_fr h.rf hf (fun g hg => h1 g hg), ow_fr h.rm hf (fun g hg => h2 g hg)⟩
theorem Rw9.lr (h : Rw9 w0 w vr vm rs ms) : ∀ g, vr.ownBlock = some g → w0.heap.size ≤ g ∧ g < w.heap.size := fun g hg => ⟨(own_blk h.rf hg).1, (own_blk h.rf hg).2.1⟩
theorem Rw9.lm (h : Rw9 w0 w vr vm rs ms) : ∀ g, vm.ownBlock = some g → w0.heap.size ≤ g ∧ g < w.heap.size := fun g hg => ⟨(own_blk h.rm hg).1, (own_blk h.rm hg).2.1⟩
theorem Rw9.ne (h : Rw9 w0 w vr vm rs ms) {g k : Nat} (h1 : vr.ownBlock = some g) (h2 : vm.ownBlock = some k) : g ≠ k := BT.ne (own_blk h.rf h1).2.2 (own_blk h.rm h2).2.2 (by decide)
theorem Ps9.quiet (h : Ps9 w0 w vr vm ps) (hf : Fr (fun _ => False) w w') : Ps9 w0 w' vr vm ps :=
  ⟨h.fr.trans hf (fun _ h _ => h), fun i p hi => ⟨(h.one i p hi).1.quiet hf, (h.one i p hi).2⟩, h.dis⟩
/-- what is done to the rows' blocks -/
theorem Ps9.rows (h : Ps9 w0 w vr vm ps) (hf : Fr T w w') (hT : ∀ k, T k → vr.ownBlock = some k ∨ vm.ownBlock = some k) (hB : ∀ k, T k → w0.heap.size ≤ k) : Ps9 w0 w' vr vm ps :=
  ⟨h.fr.wide hf (fun i hi => .inr (hB i hi)), fun i p hi => ⟨(h.one i p hi).1.other hf (fun k hk hk2 => (hT k hk2).elim (fun e => (h.one i p hi).2.1 k e hk) (fun e => (h.one i p hi).2.2 k e hk)) hB, (h.one i p hi).2⟩, h.dis⟩
/-- the rows lie elsewhere -/
theorem Ps9.moved (h : Ps9 w0 w vr vm ps) (h1 : ∀ g, vr'.ownBlock = some g → vr.ownBlock = some g ∨ w.heap.size ≤ g) (h2 : ∀ g, vm'.ownBlock = some g → vm.ownBlock = some g ∨ w.heap.size ≤ g) : Ps9 w0 w vr' vm' ps :=
  ⟨h.fr, fun i p hi => ⟨(h.one i p hi).1, fun g hg hF => (h1 g hg).elim (fun e => (h.one i p hi).2.1 g e hF) (fun e => by have := ((h.one i p hi).1.lts.1 g hF).2; omega), fun g hg hF => (h2 g hg).elim (fun e => (h.one i p hi).2.2 g e hF) (fun e => by have := ((h.one i p hi).1.lts.1 g hF).2; omega)⟩, h.dis⟩
/-- one pair is turned -/
theorem Ps9.turn {k : Nat} {p : Q9} (h : Ps9 w0 w vr vm ps) (hw : Rw9 w0 w vr vm rs ms) (hp : ps[k]? = some p) (hb : BoTo9 w0 w p.F p.r p.m w') :
    ∃ A', Ps9 w0 w' vr vm (ps.set k ⟨p.r, p.m, Grew p.F w w', A'⟩) ∧ Rw9 w0 w' vr vm rs ms := by
  obtain ⟨A', hb', hf⟩ := hb
  obtain ⟨b0, a1, a2⟩ := h.one k p hp
  have hk := (List.getElem?_eq_some_iff.1 hp).1
  have hlow : ∀ i, p.F i → w0.heap.size ≤ i := fun i hi => (b0.lts.1 i hi).1
  have far : ∀ (i : Nat) (q : Q9), ps[i]? = some q → ∀ x, q.F x → x < w.heap.size := fun i q hq x hx => ((h.one i q hq).1.lts.1 x hx).2
  have hget : ∀ (i : Nat) (q : Q9), (ps.set k ⟨p.r, p.m, Grew p.F w w', A'⟩)[i]? = some q → (i = k ∧ q = ⟨p.r, p.m, Grew p.F w w', A'⟩) ∨ (i ≠ k ∧ ps[i]? = some q) := fun i q hq => by
    by_cases e : i = k
    · subst e
      rw [List.getElem?_set_self hk] at hq
      exact .inl ⟨rfl, (Option.some.inj hq).symm⟩
    · rw [List.getElem?_set_ne (fun e2 => e e2.symm)] at hq
      exact .inr ⟨e, hq⟩
  refine ⟨A', ⟨h.fr.wide hf (fun i hi => .inr (hlow i hi)), fun i q hq => ?_, fun i j q q' hq hq' hij x hx hx' => ?_⟩, hw.keep hf a1 a2⟩
  · rcases hget i q hq with ⟨-, rfl⟩ | ⟨e, hq2⟩
    · refine ⟨hb', fun g hg hF => ?_, fun g hg hF => ?_⟩
      · rcases hF with hF | hF
        · exact a1 g hg hF
        · have := (hw.lr g hg).2; omega
      · rcases hF with hF | hF
        · exact a2 g hg hF
        · have := (hw.lm g hg).2; omega
    · obtain ⟨c0, c1, c2⟩ := h.one i q hq2
      exact ⟨c0.other hf (fun x hx hx2 => h.dis i k q p hq2 hp e x hx hx2) hlow, c1, c2⟩
  · rcases hget i q hq with ⟨rfl, rfl⟩ | ⟨e, hq2⟩
    · rcases hget j q' hq' with ⟨rfl, -⟩ | ⟨e2, hq3⟩
      · exact hij rfl
      · rcases hx with hx | hx
        · exact h.dis i j p q' hp hq3 hij x hx hx'
        · have := far j q' hq3 x hx'; omega
    · rcases hget j q' hq' with ⟨rfl, rfl⟩ | ⟨e2, hq3⟩
      · rcases hx' with hx' | hx'
        · exact h.dis i j q p hq2 hp hij x hx hx'
        · have := far i q hq2 x hx; omega
      · exact h.dis i j q q' hq2 hq3 hij x hx hx'
/-- a copy takes the place of pair k, which goes to the end -/
theorem Ps9.copy {k d d2 r2 m2 : Nat} {p : Q9} {F1 F2 : Nat → Prop} {M M2 : DM} {l l2 : List Pr} {x1 v1 x2 v2 : World} (h : Ps9 w0 w vr vm ps) (hp : ps[k]? = some p) (_hh : Ha9 w0 w p.F F1 F2 p.r d p.m M p.A (nmM M) p.A l)
    (hlr : ∀ g, vr.ownBlock = some g → w0.heap.size ≤ g ∧ g < w.heap.size) (hlm : ∀ g, vm.ownBlock = some g → w0.heap.size ≤ g ∧ g < w.heap.size)
    (hc : RecF x1 w.heap.size (iv9 w.heap.size x1.heap.size) r2 d2 M2 l) (hn : nmM M2 = cpGo9 ⟨M.seed, [], [], 0⟩ 0 l) (hl : Lens M2 1048576) (hf1 : Fr (fun _ => False) w x1)
    (hs1 : Fr (fun i => vr.ownBlock = some i) x1 v1)
    (hm : RrF x2 v1.heap.size m2 (iv9 v1.heap.size x2.heap.size) (cpGo9 ⟨M.seed, [], [], 0⟩ 0 l) l l2) (hf2 : Fr (fun _ => False) v1 x2)
    (hs2 : Fr (fun i => vm.ownBlock = some i) x2 v2) : Ps9 w0 v2 vr vm (ps.set k ⟨r2, m2, iv9 w.heap.size v2.heap.size, l⟩ ++ [p]) := by
  have hz0 := h.fr.size
  have hz1 := hf1.size
  have hz2 := hs1.size
  have hz3 := hf2.size
  have hz4 := hs2.size
  have hk := (List.getElem?_eq_some_iff.1 hp).1
  have hall : Fr (fun i => vr.ownBlock = some i ∨ vm.ownBlock = some i) w v2 := (((hf1.mono (T := fun i => vr.ownBlock = some i ∨ vm.ownBlock = some i) (fun _ h _ => h.elim)).trans hs1 (fun i hi _ => .inl hi)).trans hf2 (fun _ h _ => h.elim)).trans hs2 (fun i hi _ => .inr hi)
  have hlow : ∀ i, (vr.ownBlock = some i ∨ vm.ownBlock = some i) → w0.heap.size ≤ i := fun i hi => hi.elim (fun e => (hlr i e).1) (fun e => (hlm i e).1)
  have hnew : Bo9 w0 v2 (iv9 w.heap.size v2.heap.size) r2 m2 l := by
    refine ⟨iv9 w.heap.size x1.heap.size, iv9 v1.heap.size x2.heap.size, d2, M2, l2, fun i hi => ⟨hi.1, by have := hi.2; omega⟩, fun i hi => ⟨by have := hi.1; omega, by have := hi.2; omega⟩, fun i hi hi2 => (by have := hi.2; have := hi2.1; omega), ?_, ?_, fun i hi => ⟨by have := hi.1; omega, hi.2⟩, (h.fr.below (Nat.le_refl _) (fun _ h => h.elim)).trans (hall.below hz0 hlow), hl⟩
    · exact (((hc.other hs1 (fun i hi e => by have := (hlr i e).2; have := hi.1; omega)).quiet hf2).other hs2 (fun i hi e => by have := (hlm i e).2; have := hi.1; omega)).base hz0
    · rw [hn]
      exact (hm.other hs2 (fun i hi e => by have := (hlm i e).2; have := hi.1; omega)).base (by omega)
  have hold : ∀ (i : Nat) (q : Q9), ps[i]? = some q → Bo9 w0 v2 q.F q.r q.m q.A ∧ Aw q.F vr ∧ Aw q.F vm := fun i q hq => by
    obtain ⟨c0, c1, c2⟩ := h.one i q hq
    exact ⟨c0.other hall (fun x hx hx2 => hx2.elim (fun e => c1 x e hx) (fun e => c2 x e hx)) hlow, c1, c2⟩
  have far : ∀ (i : Nat) (q : Q9), ps[i]? = some q → ∀ x, q.F x → x < w.heap.size := fun i q hq x hx => ((h.one i q hq).1.lts.1 x hx).2
  have hget : ∀ (i : Nat) (q : Q9), (ps.set k ⟨r2, m2, iv9 w.heap.size v2.heap.size, l⟩ ++ [p])[i]? = some q → (i = k ∧ q = ⟨r2, m2, iv9 w.heap.size v2.heap.size, l⟩) ∨ (i ≠ k ∧ ∃ j, j ≠ k ∧ ps[j]? = some q ∧ (i = j)) ∨ (i = ps.length ∧ q = p) := fun i q hq => by
    rw [List.getElem?_append, List.length_set] at hq
    split at hq
    · rename_i hi
      by_cases e : i = k
      · subst e
        rw [List.getElem?_set_self hk] at hq
        exact .inl ⟨rfl, (Option.some.inj hq).symm⟩
      · rw [List.getElem?_set_ne (fun e2 => e e2.symm)] at hq
        exact .inr (.inl ⟨e, i, e, hq, rfl⟩)
    · rename_i hi
      have hi2 : i - ps.length = 0 := by
        have := (List.getElem?_eq_some_iff.1 hq).1
        simp only [List.length_singleton] at this
        omega
      rw [hi2] at hq
      exact .inr (.inr ⟨by omega, (by simpa using hq.symm : q = p)⟩)
  refine ⟨h.fr.wide hall (fun i hi => .inr (hlow i hi)), fun i q hq => ?_, fun i j q q' hq hq' hij x hx hx' => ?_⟩
  · rcases hget i q hq with ⟨-, rfl⟩ | ⟨-, j, -, hj, -⟩ | ⟨-, rfl⟩
    · exact ⟨hnew, fun g hg hF => (by have := (hlr g hg).2; have := hF.1; omega), fun g hg hF => (by have := (hlm g hg).2; have := hF.1; omega)⟩
    · exact hold j q hj
    · exact hold k q hp
  · rcases hget i q hq with ⟨rfl, rfl⟩ | ⟨-, i', e1, hi, rfl⟩ | ⟨e1, rfl⟩ <;> rcases hget j q' hq' with ⟨rfl, rfl⟩ | ⟨-, j', e2, hj, rfl⟩ | ⟨e2, rfl⟩
    · exact hij rfl
    · have := far _ _ hj x hx'; have := hx.1; omega
    · have := far _ _ hp x hx'; have := hx.1; omega
    · have := far _ _ hi x hx; have := hx'.1; omega
    · exact h.dis _ _ q q' hi hj hij x hx hx'
    · exact h.dis _ _ q q' hi hp e1 x hx hx'
    · have := far _ _ hp x hx; have := hx'.1; omega
    · exact h.dis _ _ q q' hp hj (fun e => e2 e.symm) x hx hx'
    · omega
/-- one more pointer in both rows -/
theorem Rw9.app (h : Rw9 w0 w vr vm rs ms) {wa wb : World} {a b : Nat} (hqa : Fr (fun _ => False) w wa) (hr : w1.ownsRow w0.heap.size 40 1 vr' (rs.length + 1) (rs.map ptrV ++ [ptrV a])) (hg : wa.grownBy w1 vr.ownBlock)
    (hqb : Fr (fun _ => False) w1 wb) (hr2 : w2.ownsRow w0.heap.size 96 1 vm' (ms.length + 1) (ms.map ptrV ++ [ptrV b])) (hg2 : wb.grownBy w2 vm.ownBlock) : Rw9 w0 w2 vr' vm' (rs ++ [a]) (ms ++ [b]) := by
  have h1 := h.quiet hqa
  have f1 := Fr.of_grownBy hg
  have f2 := Fr.of_grownBy hg2
  have rm1 : wb.ownsRow w0.heap.size 96 1 vm ms.length (ms.map ptrV) := ow_fr (ow_fr h1.rm f1 (fun g h3 h4 => h1.ne h4 h3 rfl)) hqb (fun _ _ h => h)
  have rf1 := ow_fr hr hqb (fun _ _ h => h)
  refine ⟨?_, ?_⟩
  · rw [List.length_append, List.map_append]
    exact ow_fr rf1 f2 (fun g h3 h4 => BT.ne (own_blk rf1 h3).2.2 (own_blk rm1 h4).2.2 (by decide) rfl)
  · rw [List.length_append, List.map_append]
    exact hr2
/-- the pairs while both rows grow -/
theorem Ps9.app (h : Ps9 w0 w vr vm ps) (hw : Rw9 w0 w vr vm rs ms) {wa wb : World} (hqa : Fr (fun _ => False) w wa) (hg : wa.grownBy w1 vr.ownBlock) (ha : ∀ g, vr'.ownBlock = some g → vr.ownBlock = some g ∨ wa.heap.size ≤ g)
    (hqb : Fr (fun _ => False) w1 wb) (hg2 : wb.grownBy w2 vm.ownBlock) (ha2 : ∀ g, vm'.ownBlock = some g → vm.ownBlock = some g ∨ wb.heap.size ≤ g) : Ps9 w0 w2 vr' vm' ps := by
  have f1 := Fr.of_grownBy hg
  have f2 := Fr.of_grownBy hg2
  have z1 := hqa.size
  have z2 := f1.size
  have z3 := hqb.size
  have hall : Fr (fun i => vr.ownBlock = some i ∨ vm.ownBlock = some i) w w2 := (((hqa.mono (T := fun i => vr.ownBlock = some i ∨ vm.ownBlock = some i) (fun _ h _ => h.elim)).trans f1 (fun i hi _ => .inl hi)).trans hqb (fun _ h _ => h.elim)).trans f2 (fun i hi _ => .inr hi)
  have hm : Ps9 w0 w vr' vm' ps := h.moved (fun g hg => (ha g hg).imp id (fun e => by omega)) (fun g hg => (ha2 g hg).imp id (fun e => by omega))
  have h2 := h.rows hall (fun _ h => h) (fun k hk => hk.elim (fun e => (hw.lr k e).1) (fun e => (hw.lm k e).1))
  exact ⟨h2.fr, fun i p hi => ⟨(h2.one i p hi).1, (hm.one i p hi).2⟩, h.dis⟩
/-- a pointer in the first row is laid anew -/
theorem Rw9.setR {g k a n : Nat} {c : Nat} (h : Rw9 w0 w (.slice (some ⟨g, 0, none⟩) n c) vm rs ms) (hk : k < rs.length) : Rw9 w0 (w.setCell ⟨g, k, none⟩ (ptrV a)) (.slice (some ⟨g, 0, none⟩) n c) vm (rs.set k a) ms := by
  obtain ⟨g', c', e, -, -⟩ := h.rf.form (by omega)
  cases e
  refine ⟨?_, ow_fr h.rm (Fr.setCell w ⟨g, k, none⟩ (ptrV a)) (fun x hx e => h.ne rfl hx (show g = x from e.symm))⟩
  have h1 := (h.rf.stored k (ptrV a)).1
  rw [List.length_set, List.map_set]
  exact h1
theorem Rw9.setM {g k a n : Nat} {c : Nat} (h : Rw9 w0 w vr (.slice (some ⟨g, 0, none⟩) n c) rs ms) (hk : k < ms.length) : Rw9 w0 (w.setCell ⟨g, k, none⟩ (ptrV a)) vr (.slice (some ⟨g, 0, none⟩) n c) rs (ms.set k a) := by
  obtain ⟨g', c', e, -, -⟩ := h.rm.form (by omega)
  cases e
  refine ⟨ow_fr h.rf (Fr.setCell w ⟨g, k, none⟩ (ptrV a)) (fun x hx e => h.ne hx rfl e), ?_⟩
  have h1 := (h.rm.stored k (ptrV a)).1
  rw [List.length_set, List.map_set]
  exact h1
theorem Rw9.rm_after {wa : World} (h : Rw9 w0 w vr vm rs ms) (hq : Fr (fun _ => False) w wa) (hg : wa.grownBy w1 vr.ownBlock) : w1.ownsRow w0.heap.size 96 1 vm ms.length (ms.map ptrV) :=
  ow_fr (h.quiet hq).rm (Fr.of_grownBy hg) (fun g h3 h4 => (h.quiet hq).ne h4 h3 rfl)
theorem Rw9.forms (h : Rw9 w0 w vr vm rs ms) (h1 : 0 < rs.length) (h2 : 0 < ms.length) : ∃ g c g2 c2, vr = .slice (some ⟨g, 0, none⟩) rs.length c ∧ vm = .slice (some ⟨g2, 0, none⟩) ms.length c2 := by
  obtain ⟨g, c, e, -, -⟩ := h.rf.form (by omega)
  obtain ⟨g2, c2, e2, -, -⟩ := h.rm.form (by omega)
  exact ⟨g, c, g2, c2, e, e2⟩
theorem Rw9.at {g c g2 c2 k a b n n2 : Nat} (h : Rw9 w0 w (.slice (some ⟨g, 0, none⟩) n c) (.slice (some ⟨g2, 0, none⟩) n2 c2) rs ms) (h1 : rs[k]? = some a) (h2 : ms[k]? = some b) :
    w.cell? ⟨g, k, none⟩ = some (ptrV a) ∧ w.cell? ⟨g2, k, none⟩ = some (ptrV b) ∧ w.frozen? ⟨g, k, none⟩ = false ∧ w.frozen? ⟨g2, k, none⟩ = false := by
  have l1 := (List.getElem?_eq_some_iff.1 h1).1
  have l2 := (List.getElem?_eq_some_iff.1 h2).1
  obtain ⟨g', c', e, -, -⟩ := h.rf.form (by omega)
  cases e
  obtain ⟨g', c', e, -, -⟩ := h.rm.form (by omega)
  cases e
  exact ⟨by rw [h.rf.cellAt k (by omega), List.getElem?_map, h1]; rfl, by rw [h.rm.cellAt k (by omega), List.getElem?_map, h2]; rfl, h.rf.frozenAt k, h.rm.frozenAt k⟩
end
end Go.Proofs.Ytgomilodeaafdaa
namespace Go.Proofs.Ytgomilodeaafdaa
open Go.ChangeShapes Go.WideShapes Go.ChangeAt Go.RowKit Ds
theorem info_rec9 : (Try.prog.info? 40).map (fun i => (i.zero, i.size, i.bytes)) = some (some (.pointer none), 1, 8) := by kernel_rfl
theorem info_rr9 : (Try.prog.info? 96).map (fun i => (i.zero, i.size, i.bytes)) = some (some (.pointer none), 1, 8) := by kernel_rfl
/-- a new pair -/
theorem bo9_new {w w1 w2 w3 w4 : World} {s : UInt64} {r d mr p : Nat} {Fd : Nat → Prop} {X : RB} (hf0 : Fr (fun _ => False) w w1) (hf : RecF w2 w1.heap.size (iv9 w1.heap.size w2.heap.size) r d ⟨s, 0, [], 0, [], 0, 0⟩ []) (h1 : Fr (fun _ => False) w2 w3)
    (hm : RrX w4 w3.heap.size mr (iv9 w3.heap.size w4.heap.size) ⟨s, [], [], 0⟩ [] [] p Fd X (.slice none 0 0)) (h12 : Fr (fun _ => False) w1 w2) (h2 : Fr (fun _ => False) w3 w4) : Bo9 w w4 (fun k => iv9 w1.heap.size w2.heap.size k ∨ iv9 w3.heap.size w4.heap.size k) r mr [] := by
  have z0 := hf0.size
  have z1 := h12.size
  have z2 := h1.size
  have z3 := h2.size
  have hall : Fr (fun _ => False) w w4 := ((hf0.trans h12 (fun _ h _ => h)).trans h1 (fun _ h _ => h)).trans h2 (fun _ h _ => h)
  refine ⟨iv9 w1.heap.size w2.heap.size, iv9 w3.heap.size w4.heap.size, d, ⟨s, 0, [], 0, [], 0, 0⟩, [], fun i hi => .inl hi, fun i hi => .inr hi, fun i hi hi2 => (by have := hi.2; have := hi2.1; omega), ((hf.quiet h1).quiet h2).base z0, ⟨⟨p, Fd, X, _, hm.base (by omega)⟩, List.Pairwise.nil, List.Perm.nil, by simp, by simp, by simp [nmM], by simp [nmM]⟩, fun i hi => ?_, hall.below (Nat.le_refl _) (fun _ h => h.elim), by unfold Lens; simp⟩
  rcases hi with hi | hi
  · exact ⟨by have := hi.1; omega, by have := hi.2; omega⟩
  · exact ⟨by have := hi.1; omega, hi.2⟩
/-- the two pairs at the start -/
theorem ps9_start {w w1 w2 w3 w4 w5 : World} {vr vm : Value} {s1 s2 : UInt64} {r1 d1 r2 d2 m1 p1 m2 p2 : Nat} {Fd1 Fd2 : Nat → Prop} {X1 X2 : RB}
    (a1 : RecF w1 w.heap.size (iv9 w.heap.size w1.heap.size) r1 d1 ⟨s1, 0, [], 0, [], 0, 0⟩ []) (f1 : Fr (fun _ => False) w w1)
    (a2 : RecF w2 w1.heap.size (iv9 w1.heap.size w2.heap.size) r2 d2 ⟨s2, 0, [], 0, [], 0, 0⟩ []) (f2 : Fr (fun _ => False) w1 w2)
    (g2 : Fr (fun _ => False) w2 w3) (gs : w2.heap.size < w3.heap.size) (hr : ∀ g, vr.ownBlock = some g → g = w2.heap.size)
    (b1 : RrX w4 w3.heap.size m1 (iv9 w3.heap.size w4.heap.size) ⟨s1, [], [], 0⟩ [] [] p1 Fd1 X1 (.slice none 0 0)) (f3 : Fr (fun _ => False) w3 w4)
    (b2 : RrX w5 w4.heap.size m2 (iv9 w4.heap.size w5.heap.size) ⟨s2, [], [], 0⟩ [] [] p2 Fd2 X2 (.slice none 0 0)) (f4 : Fr (fun _ => False) w4 w5) {w6 : World} (g5 : Fr (fun _ => False) w5 w6) (hm : ∀ g, vm.ownBlock = some g → g = w5.heap.size) :
    ∃ Fa Fb, Ps9 w w6 vr vm [⟨r1, m1, Fa, []⟩, ⟨r2, m2, Fb, []⟩] := by
  have z1 := f1.size
  have z2 := f2.size
  have z3 := g2.size
  have z4 := f3.size
  have z5 := f4.size
  have n1 := bo9_new (w := w) (Fr.refl _ _) a1 (f2.trans g2 (fun _ h _ => h)) b1 f1 f3
  have n2 := bo9_new (w := w) f1 a2 (g2.trans f3 (fun _ h _ => h)) b2 f2 f4
  have q1 := (n1.quiet f4).quiet g5
  have q2 := n2.quiet g5
  refine ⟨(fun k => iv9 w.heap.size w1.heap.size k ∨ iv9 w3.heap.size w4.heap.size k), (fun k => iv9 w1.heap.size w2.heap.size k ∨ iv9 w4.heap.size w5.heap.size k), ⟨((((f1.trans f2 (fun _ h _ => h)).trans g2 (fun _ h _ => h)).trans f3 (fun _ h _ => h)).trans f4 (fun _ h _ => h)).trans g5 (fun _ h _ => h), fun i p hi => ?_, fun i j p q hi hj hij x hx hx' => ?_⟩⟩
  · match i, hi with
    | 0, hi =>
      cases hi
      refine ⟨q1, fun g hg hF => ?_, fun g hg hF => ?_⟩
      · have := hr g hg
        rcases hF with hF | hF
        · have := hF.2; omega
        · have := hF.1; omega
      · have := hm g hg
        rcases hF with hF | hF
        · have := hF.2; omega
        · have := hF.2; omega
    | 1, hi =>
      cases hi
      refine ⟨q2, fun g hg hF => ?_, fun g hg hF => ?_⟩
      · have := hr g hg
        rcases hF with hF | hF
        · have := hF.2; omega
        · have := hF.1; omega
      · have := hm g hg
        rcases hF with hF | hF
        · have := hF.2; omega
        · have := hF.2; omega
  · match i, j, hi, hj with
    | 0, 0, _, _ => exact hij rfl
    | 1, 1, _, _ => exact hij rfl
    | 0, 1, hi, hj =>
      cases hi; cases hj
      rcases hx with hx | hx <;> rcases hx' with hx' | hx'
      · have := hx.2; have := hx'.1; omega
      · have := hx.2; have := hx'.1; omega
      · have := hx.1; have := hx'.2; omega
      · have := hx.2; have := hx'.1; omega
    | 1, 0, hi, hj =>
      cases hi; cases hj
      rcases hx with hx | hx <;> rcases hx' with hx' | hx'
      · have := hx.1; have := hx'.2; omega
      · have := hx.2; have := hx'.1; omega
      · have := hx.1; have := hx'.2; omega
      · have := hx.1; have := hx'.2; omega
/-- Set of a small pair, and how many there are -/
theorem end9_any {w0 w : World} {F : Nat → Prop} {r m : Nat} {A : List Pr} (h : Bo9 w0 w F r m A) (key s : ByteArray) (hk : Fits (key, s)) : ∃ (b : Bool) (c : Int) (N : Nat), N ≤ 1048576 ∧ ((c = 0 ∧ (b = true ∨ b = false ∧ 0 < N)) ∨ (c = 4 ∧ b = false ∧ N = 1048576)) ∧
    Calls Try.prog 24 #[.pointer (some ⟨r, 0, none⟩), .string key, .string s] w fun e w' => e = .returned (.tuple #[.bool b, .int .i64 c]) ∧ Fr F w w' ∧ Calls Try.prog 26 #[.pointer (some ⟨r, 0, none⟩)] w' fun e w2 => e = .returned (.int .i64 N) ∧ w' = w2 := by
  obtain ⟨F1, F2, d, M, l, h⟩ := h
  have hb := h.bel.size
  cases ha : fdG key A with
  | some i =>
    obtain ⟨was, hw⟩ := fdG_some ha
    have hlen : (setG A key s).length = A.length := by rw [len_set, ha]; rfl
    refine ⟨false, 0, A.length, h.f.len, .inl ⟨rfl, .inr ⟨rfl, by have := fdG_lt ha; omega⟩⟩, (recSet_there w _ F1 r d M A key s was i h.f hb hk ha hw).mono ?_⟩
    rintro e w2 ⟨rfl, t, b, hg⟩
    have h2 := recLen_any w2 _ _ r d _ _ hg.1
    rw [hlen] at h2
    exact ⟨rfl, hg.2.mono (fun x hx _ => h.s1 x hx), h2⟩
  | none =>
    by_cases hfull : 1048576 ≤ A.length
    · refine ⟨false, 4, A.length, h.f.len, .inr ⟨rfl, rfl, by have := h.f.len; omega⟩, (recSet_full w _ F1 r d M A key s h.f hb hk ha hfull).mono ?_⟩
      rintro e w2 ⟨rfl, hg⟩
      exact ⟨rfl, hg.2.mono (fun x hx _ => h.s1 x hx), recLen_any w2 _ _ r d _ _ hg.1⟩
    · have hlen : (setG A key s).length = A.length + 1 := by rw [len_set, ha]; rfl
      refine ⟨true, 0, A.length + 1, by omega, .inl ⟨rfl, .inl rfl⟩, (recSet_new w _ F1 r d M A key s h.f hb hk ha (by omega)).mono ?_⟩
      rintro e w2 ⟨rfl, t, b, hg⟩
      have h2 := recLen_any w2 _ _ r d _ _ hg.1
      rw [hlen] at h2
      exact ⟨rfl, hg.2.mono (fun x hx _ => h.s1 x hx), h2⟩
theorem set_same9 {l : List Nat} {k a : Nat} (h : l[k]? = some a) : l.set k a = l := by
  refine List.ext_getElem? fun i => ?_
  by_cases e : i = k
  · subst e; rw [List.getElem?_set_self (List.getElem?_eq_some_iff.1 h).1, h]
  · rw [List.getElem?_set_ne (fun e2 => e e2.symm)]
theorem map_turn9 {ps : List Q9} {k : Nat} {p : Q9} (hp : ps[k]? = some p) (F' : Nat → Prop) (A' : List Pr) : (ps.set k ⟨p.r, p.m, F', A'⟩).map Q9.r = ps.map Q9.r ∧ (ps.set k ⟨p.r, p.m, F', A'⟩).map Q9.m = ps.map Q9.m := by
  refine ⟨?_, ?_⟩
  · rw [List.map_set]; exact set_same9 (by rw [List.getElem?_map, hp]; rfl)
  · rw [List.map_set]; exact set_same9 (by rw [List.getElem?_map, hp]; rfl)
/-- the state between two steps -/
structure St9S (w wr : World) (vr vm : Value) (ps : List Q9) : Prop where
  pp : Ps9 w wr vr vm ps
  rr : Rw9 w wr vr vm (ps.map Q9.r) (ps.map Q9.m)
  lo : 2 ≤ ps.length
  hi : ps.length ≤ 40
theorem St9S.quiet {w wr wr' : World} {vr vm : Value} {ps : List Q9} (h : St9S w wr vr vm ps) (hf : Fr (fun _ => False) wr wr') : St9S w wr' vr vm ps := ⟨h.pp.quiet hf, h.rr.quiet hf, h.lo, h.hi⟩
theorem St9S.turn {w wr wr' : World} {vr vm : Value} {ps : List Q9} {k : Nat} {p : Q9} (h : St9S w wr vr vm ps) (hp : ps[k]? = some p) (hb : BoTo9 w wr p.F p.r p.m wr') : ∃ ps', ps'.length = ps.length ∧ St9S w wr' vr vm ps' := by
  obtain ⟨A', h1, h2⟩ := h.pp.turn h.rr hp hb
  obtain ⟨e1, e2⟩ := map_turn9 hp (Grew p.F wr wr') A'
  refine ⟨_, ?_, h1, ?_, ?_, ?_⟩
  · rw [List.length_set]
  · rw [e1, e2]; exact h2
  · rw [List.length_set]; exact h.lo
  · rw [List.length_set]; exact h.hi
theorem St9S.forms {w wr : World} {vr vm : Value} {ps : List Q9} (h : St9S w wr vr vm ps) : ∃ g c g2 c2, vr = .slice (some ⟨g, 0, none⟩) ps.length c ∧ vm = .slice (some ⟨g2, 0, none⟩) ps.length c2 := by
  have h0 := h.lo
  obtain ⟨g, c, g2, c2, e1, e2⟩ := h.rr.forms (by simp; omega) (by simp; omega)
  rw [List.length_map] at e1 e2
  exact ⟨g, c, g2, c2, e1, e2⟩
theorem St9S.at {w wr : World} {g c g2 c2 k n n2 : Nat} {ps : List Q9} {p : Q9} (h : St9S w wr (.slice (some ⟨g, 0, none⟩) n c) (.slice (some ⟨g2, 0, none⟩) n2 c2) ps) (hp : ps[k]? = some p) :
    wr.cell? ⟨g, k, none⟩ = some (ptrV p.r) ∧ wr.cell? ⟨g2, k, none⟩ = some (ptrV p.m) ∧ wr.frozen? ⟨g, k, none⟩ = false ∧ wr.frozen? ⟨g2, k, none⟩ = false :=
  h.rr.at (by rw [List.getElem?_map, hp]; rfl) (by rw [List.getElem?_map, hp]; rfl)
/-- a copy has taken the place of pair k -/
theorem St9S.copied {w wr : World} {vr vm : Value} {ps : List Q9} {k r2 m2 : Nat} {p : Q9} {F' : Nat → Prop} {A' : List Pr} (_hp : ps[k]? = some p) (hlo : 2 ≤ ps.length) (hhi : ps.length < 40) (hk : k < ps.length)
    (h1 : Ps9 w wr vr vm (ps.set k ⟨r2, m2, F', A'⟩ ++ [p])) (h2 : Rw9 w wr vr vm ((ps.map Q9.r ++ [p.r]).set k r2) ((ps.map Q9.m ++ [p.m]).set k m2)) : St9S w wr vr vm (ps.set k ⟨r2, m2, F', A'⟩ ++ [p]) := by
  refine ⟨h1, ?_, by simp; omega, by simp; omega⟩
  rw [List.map_append, List.map_append, List.map_set, List.map_set]
  rw [List.set_append_left _ _ (by simpa using hk), List.set_append_left _ _ (by simpa using hk)] at h2
  exact h2
end Go.Proofs.Ytgomilodeaafdaa
