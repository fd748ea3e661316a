/- The reference's Take; pantrylaw14's plays: a step answers as the reference says. No condition. -/
import Derived.Test.YtpcjogmikgfgdaaSpoilC
import Derived.Test.YtpcjogmikgfgdaaRefB
namespace Go.Proofs.Ytpcjogmikgfgdaa
open Go.RowKit Go.Sort
def RTakePost (w : World) (B p cap : Nat) (vr : Value) (A L : List Cd) (e : Ending) (w' : World) : Prop :=
  match L with
  | [] => e = .returned (.tuple #[.agg #[.string ⟨#[]⟩, .int .u64 0], .bool false]) ∧ RefAt w' B p cap vr A ∧ Fr (fun i => i = p ∨ vr.ownBlock = some i) w w'
  | c :: _ => ∃ vr' A' b, e = .returned (.tuple #[.agg #[.string c.key, .int .u64 c.rank], .bool true]) ∧ RefDrop A c.key A' b ∧ RefAt w' B p cap vr' A' ∧ (∀ g, vr'.ownBlock = some g → vr.ownBlock = some g ∨ w.heap.size ≤ g) ∧ Fr (fun i => i = p ∨ vr.ownBlock = some i) w w'
set_option maxRecDepth 100000 in
set_option maxHeartbeats 2000000 in
theorem takeR_any (w : World) (B p cap : Nat) (vr : Value) (A : List Cd) (h : RefAt w B p cap vr A) (hn : A.Nodup) (hB : B ≤ w.heap.size) :
    Calls Try.prog 85 #[.pointer (some ⟨p, 0, none⟩)] w (RTakePost w B p cap vr A (sortC A)) := by
  have hpw := h.lt
  have HFA : Hid (Fr (fun _ => False) w (w.alloc (.cells #[.string ⟨#[]⟩, .int .u64 0] 73))) := Fr.alloc _ _ _
  have hbz := alloc_at w (.cells #[.string ⟨#[]⟩, .int .u64 0] 73)
  have H1 := Lib.hid (h.quiet HFA.out)
  have HN := Lib.hid hn
  have HOW : Hid (∀ g, vr.ownBlock = some g → g < w.heap.size) := fun g hg => (own_blk h.row hg).2.1
  obtain ⟨L, hL⟩ : ∃ L, sortC A = L := ⟨_, rfl⟩
  rw [hL]
  have HL := Lib.hid hL
  clear h hn hL
  go_enter Try.func85, Try.ntmps85
  go_wp2_with fail
  obtain ⟨W1, hW1⟩ : ∃ W, w.alloc (.cells #[.string ⟨#[]⟩, .int .u64 0] 73) = W := ⟨_, rfl⟩
  rw [hW1] at HFA hbz H1 ⊢
  clear hW1
  have HSZ := Lib.hid (Array.getElem?_eq_some_iff.1 hbz).1
  refine (candR_any W1 B p cap vr A H1.out HN.out).mono ?_
  rw [HL.out]
  rintro e w2 ⟨v2, rfl, hr2, hb2⟩
  have HF2 : Hid (Fr (fun _ => False) W1 w2) := ⟨hb2.os, hb2.tape, hb2.output, hb2.size, fun k hk _ => hb2.block k hk⟩
  have H2 := Lib.hid (H1.out.quiet HF2.out)
  have hbz2 := (HF2.out.block _ (Array.getElem?_eq_some_iff.1 hbz).1 (fun h => h)).trans hbz
  have HFW : Hid (Fr (fun _ => False) w w2) := HFA.out.wide HF2.out (fun _ h => h.elim)
  obtain ⟨a2, c2, rfl⟩ := owns_sliceN hr2
  have HR2 := Lib.hid hr2
  clear hr2 hb2 hbz HL
  cases L with
  | nil =>
    have z0 : w2.cell? ⟨w.heap.size, 0, none⟩ = some (.string ⟨#[]⟩) := cell_of_blk hbz2 0
    have z1 : w2.cell? ⟨w.heap.size, 1, none⟩ = some (.int .u64 0) := cell_of_blk hbz2 1
    have zf0 : w2.frozen? ⟨w.heap.size, 0, none⟩ = false := free_of_blk hbz2 0
    have zf1 : w2.frozen? ⟨w.heap.size, 1, none⟩ = false := free_of_blk hbz2 1
    have hzl := (Array.getElem?_eq_some_iff.1 hbz2).1
    clear hbz2
    go_wp2_with fail
    refine bodyPost_ret (v := .tuple #[.agg #[.string ⟨#[]⟩, .int .u64 0], .bool false]) ?_ rfl ⟨rfl, ?_, ?_⟩
    · have hres : Try.f85.results = #[.cell 2 73, .tmp 3] := by kernel_rfl
      simp [results, hres, asAddr, go_sem, Result.andThen, z0, z1]
    · exact H2.out.fr ((Fr.setCell w2 ⟨w.heap.size, 0, none⟩ (.string ⟨#[]⟩)).wide (Fr.setCell _ ⟨w.heap.size, 1, none⟩ (.int .u64 0)) (fun i hi => .inl hi)) (fun k hk => by
        have hk : k = w.heap.size := hk
        exact ⟨by omega, fun e => by have := HOW.out k e; omega⟩)
    · exact ((HFW.out.mono (fun _ h _ => h.elim)).wide (Fr.setCell w2 ⟨w.heap.size, 0, none⟩ (.string ⟨#[]⟩)) (fun i hi => .inr (by rw [hi]; exact Nat.le_refl _))).wide (Fr.setCell _ ⟨w.heap.size, 1, none⟩ (.int .u64 0)) (fun i hi => .inr (by rw [hi]; exact Nat.le_refl _))
  | cons c L =>
    have hR := HR2.out
    obtain ⟨-, ⟨h9, h99⟩ | ⟨g, rc, cur, he, hgb, _⟩⟩ := hR
    · cases h99
    cases he
    obtain ⟨g', o', he', d0, d1⟩ := cd_at (RdC.of_owns HR2.out) 0 (by simp)
    cases he'
    simp only [List.getElem_cons_zero, Nat.zero_add, Nat.zero_mul] at d0 d1
    obtain ⟨key, rank⟩ := c
    dsimp only at d0 d1
    go_wp2_with fail
    refine (dropR_any w2 B p cap vr A key H2.out (Nat.le_trans hB HFW.out.size)).mono ?_
    rintro e W3 ⟨v3, A3, b3, rfl, hd3, hr3, ha3, hf3⟩
    have HD3 := Lib.hid hd3
    have HR3 := Lib.hid hr3
    have HA3 := Lib.hid ha3
    have HF3 := Lib.hid hf3
    have HRW3 : Hid (W3.ownsRow W1.heap.size 73 2 (.slice (some ⟨g, 0, none⟩) (⟨key, rank⟩ :: L).length c2) (⟨key, rank⟩ :: L).length (clC (⟨key, rank⟩ :: L))) := owns_fr HR2.out hf3 (fun g1 h1 h2 => by
      have h5 := (own_blk HR2.out h1).1
      have h6 := HFA.out.size
      have h7 := H1.out.lt
      rcases h2 with h2 | h2
      · omega
      · have := HOW.out g1 h2
        have h8 : w.heap.size ≤ W1.heap.size := h6
        omega)
    have hz3 := (hf3.block _ (Array.getElem?_eq_some_iff.1 hbz2).1 (fun e => by
      rcases e with e | e
      · omega
      · have := HOW.out _ e; omega)).trans hbz2
    obtain ⟨g', o', he', d0', d1'⟩ := cd_at (RdC.of_owns HRW3.out) 0 (by simp)
    cases he'
    simp only [List.getElem_cons_zero, Nat.zero_add, Nat.zero_mul] at d0' d1'
    have zf0 : W3.frozen? ⟨w.heap.size, 0, none⟩ = false := free_of_blk hz3 0
    have zf1 : W3.frozen? ⟨w.heap.size, 1, none⟩ = false := free_of_blk hz3 1
    have z0 : W3.cell? ⟨w.heap.size, 0, none⟩ = some (.string ⟨#[]⟩) := cell_of_blk hz3 0
    have z1 : W3.cell? ⟨w.heap.size, 1, none⟩ = some (.int .u64 0) := cell_of_blk hz3 1
    have hzl := (Array.getElem?_eq_some_iff.1 hz3).1
    have hgz : g ≠ w.heap.size := by
      have h5 := (own_blk HR2.out rfl).1
      have h6 := HSZ.out
      omega
    clear d0 d1 hd3 hr3 ha3 hf3 hz3 hbz2
    go_wp2_with fail
    refine bodyPost_ret (v := .tuple #[.agg #[.string key, .int .u64 rank], .bool true]) ?_ rfl ⟨v3, A3, b3, rfl, HD3.out, ?_, fun g hg => (HA3.out g hg).elim .inl (fun h => .inr (Nat.le_trans HFW.out.size h)), ?_⟩
    · have hres : Try.f85.results = #[.cell 2 73, .tmp 3] := by kernel_rfl
      simp [results, hres, asAddr, go_sem, Result.andThen, z0, z1]
    · exact HR3.out.fr ((Fr.setCell W3 ⟨w.heap.size, 0, none⟩ (.string key)).wide (Fr.setCell _ ⟨w.heap.size, 1, none⟩ (.int .u64 rank)) (fun i hi => .inl hi)) (fun k hk => by
        have hk : k = w.heap.size := hk
        refine ⟨by omega, fun e => ?_⟩
        rcases HA3.out k e with h | h
        · have := HOW.out k h; omega
        · have h7 : w.heap.size < W1.heap.size := HSZ.out; have := HF2.out.size; omega)
    · exact (((HFW.out.mono (fun _ h _ => h.elim)).wide HF3.out (fun i hi => .inl hi)).wide (Fr.setCell W3 ⟨w.heap.size, 0, none⟩ (.string key)) (fun i hi => .inr (by rw [hi]; exact Nat.le_refl _))).wide (Fr.setCell _ ⟨w.heap.size, 1, none⟩ (.int .u64 rank)) (fun i hi => .inr (by rw [hi]; exact Nat.le_refl _))
/-- a pool and the reference's, side by side -/
structure Pq (V : World) (B p q cap : Nat) (vr vq : Value) (l A : List Cd) : Prop where
  a : PoolAt V B p cap vr l
  m : RefAt V B q cap vq A
  s : Srt cap l A
  ne : ∀ g, vr.ownBlock = some g → vq.ownBlock ≠ some g
def Fp (p q : Nat) (vr vq : Value) (i : Nat) : Prop := (i = p ∨ vr.ownBlock = some i) ∨ (i = q ∨ vq.ownBlock = some i)
section
variable {V V1 V2 : World} {B p q cap : Nat} {vr vq vr' vq' : Value} {l l' A A' : List Cd}
theorem pools_apart (ha : PoolAt V B p cap vr l) (hm : RefAt V B q cap vq A) : q ≠ p ∧ vr.ownBlock ≠ some q ∧ vq.ownBlock ≠ some p := by
  refine ⟨fun e => ?_, fun e => ?_, fun e => ?_⟩
  · have h := hm.blk
    rw [e, ha.blk] at h
    simp only [Option.some.injEq, Obj.cells.injEq] at h
    exact absurd h.2.1 (by decide)
  · obtain ⟨_, _, cs, hc⟩ := own_blk ha.row e
    rw [hm.blk] at hc
    simp only [Option.some.injEq, Obj.cells.injEq] at hc
    exact absurd hc.2.1 (by decide)
  · obtain ⟨_, _, cs, hc⟩ := own_blk hm.row e
    rw [ha.blk] at hc
    simp only [Option.some.injEq, Obj.cells.injEq] at hc
    exact absurd hc.2.1 (by decide)
theorem Pq.quiet (h : Pq V B p q cap vr vq l A) (hf : Fr (fun _ => False) V V1) : Pq V1 B p q cap vr vq l A := ⟨h.a.quiet hf, h.m.quiet hf, h.s, h.ne⟩
theorem Pq.below (h : Pq V B p q cap vr vq l A) : ∀ i, Fp p q vr vq i → i < V.heap.size := by
  rintro i ((rfl | e) | (rfl | e))
  · exact h.a.lt
  · exact (own_blk h.a.row e).2.1
  · exact h.m.lt
  · exact (own_blk h.m.row e).2.1
theorem Pq.fr (h : Pq V B p q cap vr vq l A) {T : Nat → Prop} (hf : Fr T V V1) (hT : ∀ k, T k → ¬ Fp p q vr vq k) : Pq V1 B p q cap vr vq l A :=
  ⟨h.a.fr hf (fun k hk => ⟨fun e => hT k hk (.inl (.inl e)), fun e => hT k hk (.inl (.inr e))⟩), h.m.fr hf (fun k hk => ⟨fun e => hT k hk (.inr (.inl e)), fun e => hT k hk (.inr (.inr e))⟩), h.s, h.ne⟩
theorem Pq.mid (h : Pq V B p q cap vr vq l A) (hf : Fr (fun i => i = q ∨ vq.ownBlock = some i) V V1) : PoolAt V1 B p cap vr l := by
  obtain ⟨h1, h2, h3⟩ := pools_apart h.a h.m
  refine h.a.fr hf (fun k hk => ?_)
  rcases hk with rfl | hk
  · exact ⟨h1, h2⟩
  · exact ⟨fun e => h3 (by rw [← e]; exact hk), fun e => h.ne k e hk⟩
theorem Pq.both (h : Pq V B p q cap vr vq l A) (hr : RefAt V1 B q cap vq' A') (gr : ∀ g, vq'.ownBlock = some g → vq.ownBlock = some g ∨ V.heap.size ≤ g) (fr : Fr (fun i => i = q ∨ vq.ownBlock = some i) V V1)
    (hp : PoolAt V2 B p cap vr' l') (gp : ∀ g, vr'.ownBlock = some g → vr.ownBlock = some g ∨ V1.heap.size ≤ g) (fp : Fr (fun i => i = p ∨ vr.ownBlock = some i) V1 V2) (hs : Srt cap l' A') :
    Pq V2 B p q cap vr' vq' l' A' ∧ (∀ i, Fp p q vr' vq' i → Fp p q vr vq i ∨ V.heap.size ≤ i) ∧ Fr (Fp p q vr vq) V V2 := by
  have hpm := h.mid fr
  obtain ⟨h1, h2, h3⟩ := pools_apart hpm hr
  have hsz := fr.size
  have hsep : ∀ g, vr.ownBlock = some g → vq'.ownBlock ≠ some g := fun g hg e => by
    rcases gr g e with e2 | e2
    · exact h.ne g hg e2
    · have := (own_blk h.a.row hg).2.1; omega
  refine ⟨⟨hp, hr.fr fp (fun k hk => ?_), hs, fun g hg e => ?_⟩, ?_, (fr.mono (fun i hi _ => .inr hi)).wide fp (fun i hi => .inl (.inl hi))⟩
  · rcases hk with rfl | hk
    · exact ⟨fun e => h1 e.symm, h3⟩
    · exact ⟨fun e => h2 (by rw [← e]; exact hk), hsep k hk⟩
  · rcases gp g hg with e2 | e2
    · exact hsep g e2 e
    · have := (own_blk hr.row e).2.1; omega
  · rintro i ((rfl | e) | (rfl | e))
    · exact .inl (.inl (.inl rfl))
    · rcases gp i e with e2 | e2
      · exact .inl (.inl (.inr e2))
      · exact .inr (by omega)
    · exact .inl (.inr (.inl rfl))
    · rcases gr i e with e2 | e2
      · exact .inl (.inr (.inr e2))
      · exact .inr e2
end
def PlPost (w : World) (B p q cap : Nat) (vr vq : Value) (e : Ending) (w' : World) : Prop :=
  e = .returned (.bool true) ∧ ∃ vr' vq' l' A', Pq w' B p q cap vr' vq' l' A' ∧ (∀ i, Fp p q vr' vq' i → Fp p q vr vq i ∨ w.heap.size ≤ i) ∧ Fr (Fp p q vr vq) w w'
end Go.Proofs.Ytpcjogmikgfgdaa
