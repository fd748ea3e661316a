/- PoolPlays: every script with two pools: all that is told is what the reference tells; new memory. No condition. -/
import Derived.Test.YtpcjogmikgfgdaaPlays14
import Derived.Outline
namespace Go.Proofs.Ytpcjogmikgfgdaa
open Go.ChangeShapes Go.WideShapes Go.ChangeAt Go.RowKit
theorem sp_at14 {w : World} {a : Option Addr} {n cap : Nat} {l : List Sp} (h : RdC w 4 (.slice a n cap) n (l.flatMap spC)) (k : Nat) (hk : k < l.length) :
    ∃ g off, a = some ⟨g, off, none⟩ ∧ w.cell? ⟨g, off + k * 4, none⟩ = some (.int .i64 l[k].who) ∧ w.cell? ⟨g, off + k * 4 + 1, none⟩ = some (.int .i64 l[k].do_) ∧ w.cell? ⟨g, off + k * 4 + 2, none⟩ = some (.string l[k].c.key) ∧ w.cell? ⟨g, off + k * 4 + 3, none⟩ = some (.int .u64 l[k].c.rank) := by
  have hf := fun j hj => flat_at spC 4 spC_len l k j hk hj
  have hpos : 0 < (l.flatMap spC).length := by
    have := hf 0 (by decide)
    have h2 : (spC l[k])[0]? = some (.int .i64 l[k].who) := rfl
    rw [h2] at this
    have := (List.getElem?_eq_some_iff.1 this).1
    omega
  obtain ⟨g, off, rfl, hc⟩ := h.at hpos
  refine ⟨g, off, rfl, ?_, ?_, ?_, ?_⟩
  · exact hc (k * 4 + 0) _ (by rw [hf 0 (by decide)]; rfl)
  · rw [Nat.add_assoc]; exact hc (k * 4 + 1) _ (by rw [hf 1 (by decide)]; rfl)
  · rw [Nat.add_assoc]; exact hc (k * 4 + 2) _ (by rw [hf 2 (by decide)]; rfl)
  · rw [Nat.add_assoc]; exact hc (k * 4 + 3) _ (by rw [hf 3 (by decide)]; rfl)
theorem PoolAt.base {w : World} {B B' p cap : Nat} {vr : Value} {l : List Cd} (h : PoolAt w B' p cap vr l) (hb : B ≤ B') : PoolAt w B p cap vr l := ⟨h.blk, owns_base h.row hb, Nat.le_trans hb h.bp, h.len, h.cap1, h.cap2⟩
theorem RefAt.base {w : World} {B B' p cap : Nat} {vr : Value} {l : List Cd} (h : RefAt w B' p cap vr l) (hb : B ≤ B') : RefAt w B p cap vr l := ⟨h.blk, owns_base h.row hb, Nat.le_trans hb h.bp, h.len, h.cap1, h.cap2⟩
def Good (n : Int) : Prop := 1 ≤ n ∧ n ≤ 16
def NewP (w : World) (n : Int) (e : Ending) (w' : World) : Prop :=
  ∃ oa c, e = .returned (.tuple #[.pointer oa, .int .i64 c]) ∧ Below w.heap.size w w' ∧ ((Good n ∧ c = 0 ∧ ∃ p, oa = some ⟨p, 0, none⟩ ∧ PoolAt w' w.heap.size p n.toNat (.slice none 0 0) []) ∨ (¬ Good n ∧ c = 3 ∧ oa = none))
def NewR (w : World) (n : Int) (e : Ending) (w' : World) : Prop :=
  ∃ oa c, e = .returned (.tuple #[.pointer oa, .int .i64 c]) ∧ Below w.heap.size w w' ∧ ((Good n ∧ c = 0 ∧ ∃ p, oa = some ⟨p, 0, none⟩ ∧ RefAt w' w.heap.size p n.toNat (.slice none 0 0) []) ∨ (¬ Good n ∧ c = 3 ∧ oa = none))
theorem newP_any (w : World) (n : Int) : Calls Try.prog 44 #[.int .i64 n] w (NewP w n) := by
  by_cases hb : Good n
  · obtain ⟨N, rfl⟩ : ∃ N : Nat, n = N := ⟨n.toNat, by have := hb.1; omega⟩
    refine (newPool_any w N (by have := hb.1; omega) (by have := hb.2; omega)).mono ?_
    rintro e w' ⟨p, he, hp, hl⟩
    exact ⟨_, _, he, hl, .inl ⟨hb, rfl, p, rfl, hp⟩⟩
  · refine (newPool_bad w n (by unfold Good at hb; omega)).mono ?_
    rintro e w' ⟨he, rfl⟩
    exact ⟨_, _, he, Below.refl _ _, .inr ⟨hb, rfl, rfl⟩⟩
theorem newR_any (w : World) (n : Int) : Calls Try.prog 52 #[.int .i64 n] w (NewR w n) := by
  by_cases hb : Good n
  · obtain ⟨N, rfl⟩ : ∃ N : Nat, n = N := ⟨n.toNat, by have := hb.1; omega⟩
    refine (newRef_any w N (by have := hb.1; omega) (by have := hb.2; omega)).mono ?_
    rintro e w' ⟨p, he, hp, hl⟩
    exact ⟨_, _, he, hl, .inl ⟨hb, rfl, p, rfl, hp⟩⟩
  · refine (newRef_bad w n (by unfold Good at hb; omega)).mono ?_
    rintro e w' ⟨he, rfl⟩
    exact ⟨_, _, he, Below.refl _ _, .inr ⟨hb, rfl, rfl⟩⟩
/-- one side: no pool on either, or a pool and the reference's -/
def Side (V : World) (B : Nat) (oa om : Option Addr) (F : Nat → Prop) : Prop :=
  (oa = none ∧ om = none ∧ ∀ i, ¬ F i) ∨ (∃ p q cap vr vq l A, oa = some ⟨p, 0, none⟩ ∧ om = some ⟨q, 0, none⟩ ∧ Pq V B p q cap vr vq l A ∧ ∀ i, F i ↔ Fp p q vr vq i)
theorem Side.lt {V : World} {B : Nat} {oa om : Option Addr} {F : Nat → Prop} (h : Side V B oa om F) {i : Nat} (hi : F i) : B ≤ i ∧ i < V.heap.size := by
  rcases h with ⟨_, _, h⟩ | ⟨p, q, cap, vr, vq, l, A, _, _, hp, hf⟩
  · exact absurd hi (h i)
  · have h1 := (hf i).1 hi
    refine ⟨?_, hp.below i h1⟩
    rcases h1 with (rfl | e) | (rfl | e)
    · exact hp.a.bp
    · exact (own_blk hp.a.row e).1
    · exact hp.m.bp
    · exact (own_blk hp.m.row e).1
theorem Side.fr {V V' : World} {B : Nat} {oa om : Option Addr} {F T : Nat → Prop} (h : Side V B oa om F) (hf : Fr T V V') (hT : ∀ k, T k → ¬ F k) : Side V' B oa om F := by
  rcases h with h | ⟨p, q, cap, vr, vq, l, A, h1, h2, hp, hF⟩
  · exact .inl h
  · exact .inr ⟨p, q, cap, vr, vq, l, A, h1, h2, hp.fr hf (fun k hk hk2 => hT k hk ((hF k).2 hk2)), hF⟩
/-- both sides -/
def Bo (w V : World) (oa om ob on : Option Addr) : Prop := ∃ F1 F2, Side V w.heap.size oa om F1 ∧ Side V w.heap.size ob on F2 ∧ (∀ i, F1 i → ¬ F2 i) ∧ Below w.heap.size w V
section
variable {w V V' : World} {oa om ob on : Option Addr}
theorem Bo.swap (h : Bo w V oa om ob on) : Bo w V ob on oa om := by
  obtain ⟨F1, F2, h1, h2, h3, h4⟩ := h
  exact ⟨F2, F1, h2, h1, fun i a b => h3 i b a, h4⟩
theorem Bo.quiet (h : Bo w V oa om ob on) (hf : Fr (fun _ => False) V V') : Bo w V' oa om ob on := by
  obtain ⟨F1, F2, h1, h2, h3, h4⟩ := h
  exact ⟨F1, F2, h1.fr hf (fun _ h => h.elim), h2.fr hf (fun _ h => h.elim), h3, h4.trans (hf.below h4.size (fun _ h => h.elim))⟩
theorem Bo.bel (h : Bo w V oa om ob on) : Below w.heap.size w V := by
  obtain ⟨F1, F2, h1, h2, h3, h4⟩ := h
  exact h4
/-- the first side: none, or a pool that may take a step -/
theorem Bo.one (h : Bo w V oa om ob on) : (oa = none ∧ om = none) ∨ ∃ p q cap vr vq l A, oa = some ⟨p, 0, none⟩ ∧ om = some ⟨q, 0, none⟩ ∧ Pq V w.heap.size p q cap vr vq l A ∧ (∀ e V', PlPost V w.heap.size p q cap vr vq e V' → e = .returned (.bool true) ∧ Bo w V' oa om ob on) := by
  obtain ⟨F1, F2, h1, h2, h3, h4⟩ := h
  rcases h1 with ⟨a, b, _⟩ | ⟨p, q, cap, vr, vq, l, A, k1, k2, hp, hF⟩
  · exact .inl ⟨a, b⟩
  · refine .inr ⟨p, q, cap, vr, vq, l, A, k1, k2, hp, ?_⟩
    rintro e V' ⟨he, vr', vq', l', A', hq, hg, hfr⟩
    have h1' : Side V w.heap.size oa om F1 := .inr ⟨p, q, cap, vr, vq, l, A, k1, k2, hp, hF⟩
    refine ⟨he, Fp p q vr' vq', F2, .inr ⟨p, q, cap, vr', vq', l', A', k1, k2, hq, fun _ => Iff.rfl⟩, h2.fr hfr (fun k hk => h3 k ((hF k).2 hk)), fun i hi hi2 => ?_, h4.trans (hfr.below h4.size (fun i hi => (h1'.lt ((hF i).2 hi)).1))⟩
    rcases hg i hi with h5 | h5
    · exact h3 i ((hF i).2 h5) hi2
    · have := (h2.lt hi2).2; omega
/-- the same, behind a new box, which stays -/
theorem Bo.box (h : Bo w V oa om ob on) (o : Obj) : (oa = none ∧ om = none) ∨ ∃ p q cap vr vq l A, oa = some ⟨p, 0, none⟩ ∧ om = some ⟨q, 0, none⟩ ∧ Pq (V.alloc o) w.heap.size p q cap vr vq l A ∧ (∀ e V', PlPost (V.alloc o) w.heap.size p q cap vr vq e V' → e = .returned (.bool true) ∧ Bo w V' oa om ob on ∧ V'.heap[V.heap.size]? = some o) := by
  obtain ⟨F1, F2, h1, h2, h3, h4⟩ := h
  have hf := Fr.alloc (fun _ => False) V o
  rcases h1 with ⟨a, b, _⟩ | ⟨p, q, cap, vr, vq, l, A, k1, k2, hp, hF⟩
  · exact .inl ⟨a, b⟩
  · have hpA := hp.quiet hf
    have hbo : Bo w (V.alloc o) oa om ob on := Bo.quiet ⟨F1, F2, .inr ⟨p, q, cap, vr, vq, l, A, k1, k2, hp, hF⟩, h2, h3, h4⟩ hf
    refine .inr ⟨p, q, cap, vr, vq, l, A, k1, k2, hpA, fun e V' hq => ?_⟩
    have hfr := hq.2
    obtain ⟨he, vr', vq', l', A', hq', hg, hfr⟩ := hq
    have h2A := h2.fr hf (fun _ h => h.elim)
    have h1A : Side (V.alloc o) w.heap.size oa om F1 := .inr ⟨p, q, cap, vr, vq, l, A, k1, k2, hpA, hF⟩
    have h4A : Below w.heap.size w (V.alloc o) := h4.alloc h4.size o
    refine ⟨he, ⟨Fp p q vr' vq', F2, .inr ⟨p, q, cap, vr', vq', l', A', k1, k2, hq', fun _ => Iff.rfl⟩, h2A.fr hfr (fun k hk => h3 k ((hF k).2 hk)), fun i hi hi2 => ?_, h4A.trans (hfr.below h4A.size (fun i hi => (h1A.lt ((hF i).2 hi)).1))⟩, ?_⟩
    · rcases hg i hi with h5 | h5
      · exact h3 i ((hF i).2 h5) hi2
      · have := (h2A.lt hi2).2; omega
    · exact (hfr.block _ (by simp) (fun e => by have := hp.below _ e; omega)).trans (alloc_at V o)
end
/-- a new side -/
theorem side_new {w V1 V2 : World} {n : Int} {oa om : Option Addr} {c d : Int} (h1 : (Good n ∧ c = 0 ∧ ∃ p, oa = some ⟨p, 0, none⟩ ∧ PoolAt V1 w.heap.size p n.toNat (.slice none 0 0) []) ∨ (¬ Good n ∧ c = 3 ∧ oa = none)) (hb : Below V1.heap.size V1 V2)
    (h2 : (Good n ∧ d = 0 ∧ ∃ p, om = some ⟨p, 0, none⟩ ∧ RefAt V2 V1.heap.size p n.toNat (.slice none 0 0) []) ∨ (¬ Good n ∧ d = 3 ∧ om = none)) (hs : w.heap.size ≤ V1.heap.size) :
    (∃ F, Side V2 w.heap.size oa om F) ∧ c = d ∧ oa.isNone = om.isNone := by
  rcases h1 with ⟨g1, rfl, p, rfl, hp⟩ | ⟨g1, rfl, rfl⟩
  · rcases h2 with ⟨g2, rfl, q, rfl, hq⟩ | ⟨g2, _⟩
    · refine ⟨⟨_, .inr ⟨p, q, n.toNat, _, _, [], [], rfl, rfl, ⟨hp.quiet ⟨hb.os, hb.tape, hb.output, hb.size, fun k hk _ => hb.block k hk⟩, hq.base hs, Srt.nil _, fun g hg => by cases hg⟩, fun _ => Iff.rfl⟩⟩, rfl, rfl⟩
    · exact absurd g1 g2
  · rcases h2 with ⟨g2, _⟩ | ⟨g2, rfl, rfl⟩
    · exact absurd g2 g1
    · exact ⟨⟨fun _ => False, .inl ⟨rfl, rfl, fun _ h => h⟩⟩, rfl, rfl⟩
theorem bo_new {w V2 V3 V4 : World} {oa om ob on : Option Addr} (hb2 : Below w.heap.size w V2) (h1 : ∃ F, Side V2 w.heap.size oa om F) (hb4 : Below V2.heap.size V2 V4) (h2 : ∃ F, Side V4 V2.heap.size ob on F) : Bo w V4 oa om ob on := by
  obtain ⟨F1, h1⟩ := h1
  obtain ⟨F2, h2⟩ := h2
  have hq : Fr (fun _ => False) V2 V4 := ⟨hb4.os, hb4.tape, hb4.output, hb4.size, fun k hk _ => hb4.block k hk⟩
  refine ⟨F1, F2, h1.fr hq (fun _ h => h.elim), ?_, fun i hi hi2 => ?_, hb2.trans (hb4.mono hb2.size)⟩
  · rcases h2 with h | ⟨p, q, cap, vr, vq, l, A, k1, k2, hp, hF⟩
    · exact .inl h
    · exact .inr ⟨p, q, cap, vr, vq, l, A, k1, k2, ⟨hp.a.base hb2.size, hp.m.base hb2.size, hp.s, hp.ne⟩, hF⟩
  · have := (h1.lt hi).2
    have := (h2.lt hi2).1
    omega
set_option maxRecDepth 100000 in
set_option maxHeartbeats 8000000 in
theorem poolPlays_walk (w : World) (n : Int) (h1 : -9223372036854775808 ≤ n) (h2 : n ≤ 9223372036854775807) (m : Int) (h3 : -9223372036854775808 ≤ m) (h4 : m ≤ 9223372036854775807) (v1 : Value) (S : List Sp) (hr : RdC w 4 v1 S.length (S.flatMap spC)) (hby : S.length * 40 ≤ 140737488351232) (h5 : ∀ o ∈ S, True) :
    Calls Try.prog 11 #[.int .i64 n, .int .i64 m, v1] w fun e w' => e = .returned (.bool true) ∧ Below w.heap.size w w' := by
  have HR := Lib.hid hr
  obtain ⟨-, a1, c1, rfl, -⟩ := hr
  clear h1 h2 h3 h4 h5
  go_enter Try.func11, Try.ntmps11
  go_wp2_with fail
  refine (newP_any w n).mono ?_
  rintro e w1 ⟨oa, ca, rfl, hb1, hs1⟩
  have HB1 := Lib.hid hb1
  have HS1 := Lib.hid hs1
  clear hb1 hs1
  go_wp2_with fail
  refine (newR_any w1 n).mono ?_
  rintro e w2 ⟨om, cm, rfl, hb2, hs2⟩
  obtain ⟨k1, k2, k3⟩ := side_new HS1.out hb2 hs2 HB1.out.size
  have HB2 : Hid (Below w.heap.size w w2) := HB1.out.trans (hb2.mono HB1.out.size)
  have HK1 := Lib.hid k1
  have HN1 := Lib.hid k3
  subst k2
  clear hb2 hs2 HS1 k1 k3
  go_wp2_with fail
  refine (newP_any w2 m).mono ?_
  rintro e w3 ⟨ob, cb, rfl, hb3, hs3⟩
  have HB3 := Lib.hid hb3
  have HS3 := Lib.hid hs3
  clear hb3 hs3
  go_wp2_with fail
  refine (newR_any w3 m).mono ?_
  rintro e w4 ⟨on, cn, rfl, hb4, hs4⟩
  obtain ⟨k1, k2, k3⟩ := side_new HS3.out hb4 hs4 HB3.out.size
  have HBO : Hid (Bo w w4 oa om ob on) := bo_new (V3 := w3) HB2.out HK1.out (HB3.out.trans (hb4.mono HB3.out.size)) k1
  have HN2 := Lib.hid k3
  subst k2
  clear hb4 hs4 HS3 k1 k3 HB1 HB2 HB3 HK1
  go_upto_region 5 with fail
  go_cut [58] from 37 to 58 (fun t wc => t = .bool false ∧ wc = w4)
  case first =>
    have e1 : (ca != ca) = false := by simp
    have e2 : (cb != cb) = false := by simp
    have hn1 := HN1.out
    have hn2 := HN2.out
    cases oa with
    | none =>
      cases om with
      | some _ => cases hn1
      | none =>
        cases ob with
        | none =>
          cases on with
          | some _ => cases hn2
          | none =>
            clear hn1 hn2
            go_wp2_with fail
            go_meet
            case rel => exact ⟨rfl, rfl⟩
        | some b =>
          cases on with
          | none => cases hn2
          | some d =>
            clear hn1 hn2
            go_wp2_with fail
            go_meet
            case rel => exact ⟨rfl, rfl⟩
    | some a =>
      cases om with
      | none => cases hn1
      | some c =>
        cases ob with
        | none =>
          cases on with
          | some _ => cases hn2
          | none =>
            clear hn1 hn2
            go_wp2_with fail
            go_meet
            case rel => exact ⟨rfl, rfl⟩
        | some b =>
          cases on with
          | none => cases hn2
          | some d =>
            clear hn1 hn2
            go_wp2_with fail
            go_meet
            case rel => exact ⟨rfl, rfl⟩
  case rest =>
  obtain ⟨rfl, rfl⟩ := hcut
  clear HN1 HN2
  go_wp2_with fail
  go_loopw [61] (fun i wr => ∃ k : Nat, i = .int .i64 k ∧ k ≤ S.length ∧ Hid (Bo w wr oa om ob on)) (fun i _ => S.length - (intOf i).toNat)
  case atStart => exact ⟨0, rfl, by omega, HBO.out⟩
  case round =>
    obtain ⟨k, rfl, hk, HX⟩ := hrel
    obtain ⟨wo, rfl⟩ : ∃ x, x = wr := ⟨_, rfl⟩
    clear HBO
    by_cases hlt : k < S.length
    · obtain ⟨g, off, rfl, d0, d1, d2, d3⟩ := sp_at14 (HR.out.below HX.out.bel) k hlt
      obtain ⟨o, ho⟩ : ∃ o, S[k] = o := ⟨_, rfl⟩
      rw [ho] at d0 d1 d2 d3
      have hb0 : (0 : Int) ≤ (k : Int) := by omega
      have hb1 : (k : Int) < (S.length : Int) := by omega
      have HXA : Hid (Bo w (wo.alloc (.cells #[.int .i64 o.who, .int .i64 o.do_, .string o.c.key, .int .u64 o.c.rank] 87)) oa om ob on) := HX.out.quiet (Fr.alloc _ _ _)
      clear ho
      obtain ⟨who, hwho⟩ : ∃ x, o.who = x := ⟨_, rfl⟩
      rw [hwho] at d0 HXA
      have HWH := Lib.hid hwho
      clear hwho
      by_cases h0 : who = 0
      · subst h0
        rcases HX.out.box (.cells #[.int .i64 0, .int .i64 o.do_, .string o.c.key, .int .u64 o.c.rank] 87) with ⟨rfl, rfl⟩ | ⟨p, q, cap, vr, vq, l, A, rfl, rfl, hp, hstep⟩
        · go_wp2_with fail
          go_roundw
          case rel => exact ⟨k + 1, by go_num, by omega, HXA.out⟩
          case measure => simp [intOf]; omega
        · have HPL := Lib.hid (plays14_any _ w.heap.size p q cap vr vq l A o hp HXA.out.bel.size)
          have HST := Lib.hid hstep
          rw [HWH.out] at HPL
          clear hstep hp
          go_wp2_with fail
          refine HPL.out.mono ?_
          intro e w6 hq
          obtain ⟨rfl, hbo, hbx⟩ := HST.out e w6 hq
          have HB6 := Lib.hid hbo
          have x0 : w6.cell? ⟨wo.heap.size, 0, none⟩ = some (.int .i64 0) := cell_of_blk hbx 0
          clear hbx
          clear hq hbo HST HPL d0 d1 d2 d3
          go_wp2_with fail
          go_roundw
          case rel => exact ⟨k + 1, by go_num, by omega, HB6.out⟩
          case measure => simp [intOf]; omega
      · have g0 : (who == 0) = false := by rw [beq_eq_false_iff_ne]; exact h0
        by_cases h1 : who = 1
        · subst h1
          clear g0 h0
          rcases HXA.out.swap.one with ⟨rfl, rfl⟩ | ⟨p, q, cap, vr, vq, l, A, rfl, rfl, hp, hstep⟩
          · go_wp2_with fail
            go_roundw
            case rel => exact ⟨k + 1, by go_num, by omega, HXA.out⟩
            case measure => simp [intOf]; omega
          · have HPL := Lib.hid (plays14_any _ w.heap.size p q cap vr vq l A o hp HXA.out.bel.size)
            have HST := Lib.hid hstep
            rw [HWH.out] at HPL
            clear hstep hp
            go_wp2_with fail
            refine HPL.out.mono ?_
            intro e w6 hq
            obtain ⟨rfl, hbo⟩ := HST.out e w6 hq
            have HB6 := Lib.hid hbo.swap
            clear hq hbo HST HPL d0 d1 d2 d3
            go_wp2_with fail
            go_roundw
            case rel => exact ⟨k + 1, by go_num, by omega, HB6.out⟩
            case measure => simp [intOf]; omega
        · have g1 : (who == 1) = false := by rw [beq_eq_false_iff_ne]; exact h1
          clear h0 h1
          go_wp2_with fail
          go_roundw
          case rel => exact ⟨k + 1, by go_num, by omega, HXA.out⟩
          case measure => simp [intOf]; omega
    · obtain rfl : k = S.length := by omega
      rcases HX.out.one with ⟨rfl, rfl⟩ | ⟨p, q, cap, vr, vq, l, A, rfl, rfl, hp, _⟩
      · rcases HX.out.swap.one with ⟨rfl, rfl⟩ | ⟨p2, q2, cap2, vr2, vq2, l2, A2, rfl, rfl, hp2, _⟩
        · go_wp2_with fail
          go_ret
          exact ⟨rfl, HX.out.bel⟩
        · have HRW := Lib.hid (row_any wo w.heap.size w.heap.size p2 q2 cap2 vr2 vq2 l2 A2 hp2.a hp2.m hp2.s)
          clear hp2
          go_wp2_with fail
          refine HRW.out.mono ?_
          rintro e w6 ⟨rfl, hf6⟩
          have HB6 := Lib.hid (HX.out.quiet hf6)
          clear hf6
          go_wp2_with fail
          go_ret
          exact ⟨rfl, HB6.out.bel⟩
      · have HRW := Lib.hid (row_any wo w.heap.size w.heap.size p q cap vr vq l A hp.a hp.m hp.s)
        clear hp
        go_wp2_with fail
        refine HRW.out.mono ?_
        rintro e w6 ⟨rfl, hf6⟩
        have HB6 := Lib.hid (HX.out.quiet hf6)
        clear hf6
        rcases HB6.out.swap.one with ⟨rfl, rfl⟩ | ⟨p2, q2, cap2, vr2, vq2, l2, A2, rfl, rfl, hp2, _⟩
        · go_wp2_with fail
          go_ret
          exact ⟨rfl, HB6.out.bel⟩
        · have HRW2 := Lib.hid (row_any w6 w.heap.size w.heap.size p2 q2 cap2 vr2 vq2 l2 A2 hp2.a hp2.m hp2.s)
          clear hp2
          go_wp2_with fail
          refine HRW2.out.mono ?_
          rintro e w7 ⟨rfl, hf7⟩
          have HB7 := Lib.hid (HB6.out.quiet hf7)
          clear hf7
          go_wp2_with fail
          go_ret
          exact ⟨rfl, HB7.out.bel⟩
set_option maxRecDepth 100000 in
theorem poolPlays_lifted (os : Os) (started : os.Started) (H : Type) (enc : TypeId × Value → H) :
    ReturnsInHanded {} Try.checked os 11 .any (Rows.poolPlaysSpec.pre6 enc Try.prog Try.f11 Rows.poolPlaysRow.domain false) (Rows.poolPlaysSpec.post enc Try.prog Try.f11 false true false false) := by
  refine returnsInHanded_of_change_sized (C := Try.checked) own started (by kernel_rfl) Try.func11
    (ChangeSpec.witness6 (enc := enc) (C := Try.checked) false ⟨#[], #[.int .i64 0, .int .i64 0, .slice none 0 0], []⟩ 8 (by kernel_rfl) (by kernel_rfl) (by kernel_rfl) (by kernel_rfl)) ?_
  intro W base args ds gs before hval0 hW hcnd hsz0 _
  have hval : ∀ (j : Nat) t v, Try.f11.params[j]? = some t → args[j]? = some v → Value.okWide Try.prog W .any base t v := hval0
  have hW' := hW
  obtain ⟨p, q, hA0, hV, rfl, hfz, hnd⟩ := hW
  have hA : DataW.TrodAll enc Try.prog W 0 (fun _ => true) true Try.f11.params.toList args.toList ds p := hA0
  rw [Try.params11] at hA hval
  obtain ⟨v0, vs0, d0, ds0, p0, q0, hargs, rfl, rfl, h0, r0⟩ := trodAll_cons hA
  obtain ⟨v1, vs1, d1, ds1, p1, q1, rfl, rfl, rfl, h1, r1⟩ := trodAll_cons r0
  obtain ⟨v2, vs2, d2, ds2, p2, q2, rfl, rfl, rfl, h2, r2⟩ := trodAll_cons r1
  obtain ⟨rfl, rfl, rfl⟩ := trodAll_nil r2
  obtain rfl : args = #[v0, v1, v2] := by cases args; simp_all
  obtain ⟨rfl, rfl⟩ := trodVars_none hV
  have hsz : (DataW.weightsEach Try.prog [3, 3, 82] [d0, d1, d2]).all (fun x => decide (x ≤ reachBytes)) = true := by
    have h := hsz0
    simp only [List.append_nil] at h
    have e : (Try.f11.params.toList ++ DataSpec.varTypes Try.checked.prog Rows.poolPlaysSpec.plain) = [3, 3, 82] := by kernel_rfl
    rw [e] at h; exact h
  clear hsz0
  obtain ⟨hw0, hsz0⟩ := weights_cons hsz
  obtain ⟨x0, rfl, lo0, hi0⟩ := open_i64 Try.underlying3 (hval 0 3 v0 rfl rfl) h0
  obtain ⟨hw1, hsz1⟩ := weights_cons hsz0
  obtain ⟨x1, rfl, lo1, hi1⟩ := open_i64 Try.underlying3 (hval 1 3 v1 rfl rfl) h1
  obtain ⟨hw2, hsz2⟩ := weights_cons hsz1
  obtain ⟨fu2, hf2⟩ := trod_one h2 (okWide_slice Try.underlying82 (hval 2 82 v2 rfl rfl))
  obtain ⟨l2, hr2, hby2, hok2⟩ := open_script14 hf2 hw2
  clear hA0 hval0
  refine (poolPlays_walk W x0 lo0 hi0 x1 lo1 hi1 v2 l2 hr2 hby2 hok2).mono fun e W' ⟨he, bel⟩ => ?_
  subst he
  exact ⟨_, rfl, law_post laidOut Try.underlying4 (by kernel_rfl) rfl (by kernel_rfl) hW' rfl bel⟩

theorem poolPlays_holds : Rows.PoolPlaysSaid :=
  OpenClaim.holds_of_wide 11 Try.f11 rfl rfl rfl rfl rfl rfl rfl ⟨rfl, rfl, rfl, rfl, rfl⟩ rfl rfl rfl rfl rfl (by kernel_rfl) Try.func11 (by kernel_rfl)
    (of_decide_eq_true (by kernel_rfl)) (by unfold Func.isWrapper; rw [if_neg (of_decide_eq_false (by kernel_rfl))]; exact ⟨rfl, rfl⟩)
    (fun os started H enc _ => poolPlays_lifted os started H enc)
end Go.Proofs.Ytpcjogmikgfgdaa
