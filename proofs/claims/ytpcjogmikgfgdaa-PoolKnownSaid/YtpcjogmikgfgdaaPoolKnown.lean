/- PoolKnown: the chapter's examples. No condition. -/
import Derived.Test.YtpcjogmikgfgdaaSoonC
import Derived.Deep.RegionHeld3
import Derived.Outline
namespace Go.Proofs.Ytpcjogmikgfgdaa
open Go.ChangeShapes Go.WideShapes Go.ChangeAt Go.RowKit
def k5 : Cd := ⟨⟨#[97]⟩, 5⟩
def k3 : Cd := ⟨⟨#[98]⟩, 3⟩
def k4 : Cd := ⟨⟨#[99]⟩, 4⟩
def k9 : Cd := ⟨⟨#[99]⟩, 9⟩
def a7 : Cd := ⟨⟨#[97]⟩, 7⟩
def b7 : Cd := ⟨⟨#[98]⟩, 7⟩
theorem t1 : offS [] k5 = [k5] := sortC_of (List.Perm.refl _) (List.pairwise_singleton _ _)
theorem t2 : offS [k5] k3 = [k3, k5] := sortC_of (show [k5, k3].Perm [k3, k5] from List.Perm.swap _ _ _) (by decide)
theorem t3 : offS [k3, k5] k9 = [k3, k5, k9] := sortC_of (List.Perm.refl _) (by decide)
theorem t4 : offS [k3, k5] k4 = [k3, k4, k5] := sortC_of (show [k3, k5, k4].Perm [k3, k4, k5] from (List.Perm.swap _ _ _).cons _) (by decide)
theorem t5 : offS [k3, k4] b7 = [k4, b7] := sortC_of (List.Perm.refl _) (by decide)
theorem t6 : offS [k4, b7] a7 = [k4, a7, b7] := sortC_of (show [k4, b7, a7].Perm [k4, a7, b7] from (List.Perm.swap _ _ _).cons _) (by decide +kernel)
theorem t7 : offS [k4, a7] b7 = [k4, a7, b7] := sortC_of (List.Perm.refl _) (by decide +kernel)
theorem u1 : offB 2 [] k5 = true := by unfold offB; rw [t1]; rfl
theorem u2 : offB 2 [k5] k3 = true := by unfold offB; rw [t2]; rfl
theorem u3 : offB 2 [k3, k5] k9 = false := by unfold offB; rw [t3]; decide +kernel
theorem u4 : offB 2 [k3, k5] k4 = true := by unfold offB; rw [t4]; decide +kernel
theorem u5 : offB 2 [k3, k4] b7 = true := by unfold offB; rw [t5]; rfl
theorem u6 : offB 2 [k4, b7] a7 = true := by unfold offB; rw [t6]; decide +kernel
theorem u7 : offB 2 [k4, a7] b7 = false := by unfold offB; rw [t7]; decide +kernel
/-- 'wpAnyH_take', the slot written out -/
theorem takeH {P : Program} {md : Region.Mode} {ops : Array Oper} {Q : Exit → Act → World → Prop} {S : World → Prop} {i d : Nat} {oi : Oper} {v : Value} {fuel : Nat} {listed : Array Bool} {a : Act} {w : World} (hi : ops[i]? = some oi) (hd : (ops[i]?).map (fun o => o.dst) = some (some d))
    (hs : Region.noSelect ops = true) (hf : Region.free md ops listed i = true) (hr : (Region.ready md ops listed).contains i = true)
    (hQ : ∀ c a w, Q (.panic c) (a.put (some d) v) w → Q (.panic c) a w) (hy : YieldsIf P ops S oi v a) (hS : S w)
    (h : wpAnyH P md ops Q S fuel (listed.setIfInBounds i true) (a.put (some d) v) w) : wpAnyH P md ops Q S (fuel + 1) listed a w := by
  have e : oi.dst = some d := by rw [hi] at hd; simpa using hd
  exact wpAnyH_take hi hs hf hr (by rw [e]; exact hQ) hy hS (by rw [e]; exact h)
theorem Pw.offer' {w V V' : World} {B p cap : Nat} {vr : Value} {l l' : List Cd} {c : Cd} {b : Bool} {e : Ending} (h : Pw w B p cap vr l V) (hq : OfferPost V B p cap vr l c e V') (hb : offB cap l c = b) (hl : (offS l c).take cap = l') :
    ∃ vr', e = .returned (.bool b) ∧ Hid (Pw w B p cap vr' l' V') ∧ Hid (Fr (fun i => i = p ∨ vr.ownBlock = some i) V V') := by
  obtain ⟨vr', he, hp⟩ := h.offer hq
  rw [hb] at he
  rw [hl] at hp
  obtain ⟨_, _, _, _, hf⟩ := hq
  exact ⟨vr', he, hp, hf⟩
/-- the pool and the three boxes behind it -/
structure Kx (w : World) (B p s : Nat) (x y z : Cd) (vr : Value) (l : List Cd) (V : World) : Prop where
  k : Pw w B p 2 vr l V
  b0 : V.heap[s]? = some (.cells #[.string x.key, .int .u64 x.rank] 73 (0, 0))
  b1 : V.heap[s + 1]? = some (.cells #[.string y.key, .int .u64 y.rank] 73 (0, 0))
  b2 : V.heap[s + 2]? = some (.cells #[.string z.key, .int .u64 z.rank] 73 (0, 0))
  ps : p < s
  ap : ∀ g, vr.ownBlock = some g → g < s ∨ s + 3 ≤ g
section
variable {w V V' : World} {B p s : Nat} {x y z : Cd} {vr vr' : Value} {l l' : List Cd}
theorem Kx.keep (h : Kx w B p s x y z vr l V) (hk : Pw w B p 2 vr' l' V') (hf : Fr (fun i => i = p ∨ vr.ownBlock = some i) V V') (ha : ∀ g, vr'.ownBlock = some g → vr.ownBlock = some g ∨ V.heap.size ≤ g) : Kx w B p s x y z vr' l' V' := by
  have hs : s + 2 < V.heap.size := (Array.getElem?_eq_some_iff.1 h.b2).1
  have ne : ∀ i, s ≤ i → i < s + 3 → ¬ (i = p ∨ vr.ownBlock = some i) := fun i h1 h2 e => by
    rcases e with e | e
    · have := h.ps; omega
    · rcases h.ap i e with h3 | h3 <;> omega
  exact ⟨hk, (hf.block s (by omega) (ne s (by omega) (by omega))).trans h.b0, (hf.block (s + 1) (by omega) (ne _ (by omega) (by omega))).trans h.b1, (hf.block (s + 2) hs (ne _ (by omega) (by omega))).trans h.b2, h.ps, fun g hg => by
    rcases ha g hg with h3 | h3
    · exact h.ap g h3
    · exact .inr (by omega)⟩
theorem Kx.quiet (h : Kx w B p s x y z vr l V) (hf : Fr (fun _ => False) V V') : Kx w B p s x y z vr l V' :=
  h.keep (h.k.quiet hf) (hf.mono (fun _ h => h.elim)) (fun g hg => .inl hg)
theorem Kx.callOffer (h : Kx w B p s x y z vr l V) {V1 : World} (hf : Fr (fun _ => False) V V1) (c : Cd) {b : Bool} (hl2 : l.length ≤ 2) (hb : offB 2 l c = b) (hl : (offS l c).take 2 = l') :
    Calls Try.prog 46 #[.pointer (some ⟨p, 0, none⟩), .agg #[.string c.key, .int .u64 c.rank]] V1 fun e w' => ∃ vr', e = .returned (.bool b) ∧ Hid (Kx w B p s x y z vr' l' w') := by
  have h1 := h.quiet hf
  refine (offer_any V1 B p 2 vr l c h1.k.a hl2 ?_).mono ?_
  · exact Nat.le_trans h1.k.a.bp (Nat.le_of_lt h1.k.a.lt)
  · intro e w' hq
    obtain ⟨vr', he, hp⟩ := h1.k.offer hq
    obtain ⟨vr2, he2, hp2, ha2, hf2⟩ := hq
    rw [hb] at he2
    refine ⟨vr2, he2, h1.keep ?_ hf2 ha2⟩
    rw [hl] at hp2
    exact h1.k.turn hp2 hf2
theorem Kx.cells (h : Kx w B p s x y z vr l V) : (V.cell? ⟨s, 0, none⟩ = some (.string x.key) ∧ V.cell? ⟨s, 1, none⟩ = some (.int .u64 x.rank)) ∧ (V.cell? ⟨s + 1, 0, none⟩ = some (.string y.key) ∧ V.cell? ⟨s + 1, 1, none⟩ = some (.int .u64 y.rank)) ∧ (V.cell? ⟨s + 2, 0, none⟩ = some (.string z.key) ∧ V.cell? ⟨s + 2, 1, none⟩ = some (.int .u64 z.rank)) :=
  ⟨⟨cell_of_blk h.b0 0, cell_of_blk h.b0 1⟩, ⟨cell_of_blk h.b1 0, cell_of_blk h.b1 1⟩, ⟨cell_of_blk h.b2 0, cell_of_blk h.b2 1⟩⟩
def CandK (w : World) (B p s : Nat) (x y z : Cd) (vr : Value) (l : List Cd) (V : World) (e : Ending) (w' : World) : Prop :=
  ∃ vc, e = .returned vc ∧ Hid (w'.ownsRow V.heap.size 73 2 vc l.length (clC l) ∧ Fr (fun _ => False) V w') ∧ Hid (Kx w B p s x y z vr l w')
theorem Kx.callCand (h : Kx w B p s x y z vr l V) {V1 : World} (hf : Fr (fun _ => False) V V1) : Calls Try.prog 47 #[.pointer (some ⟨p, 0, none⟩)] V1 (CandK w B p s x y z vr l V1) := by
  have h1 := h.quiet hf
  refine (candidates_any V1 B p 2 vr l h1.k.a).mono ?_
  rintro e w' ⟨v, he, hr, hb⟩
  have hq : Fr (fun _ => False) V1 w' := ⟨hb.os, hb.tape, hb.output, hb.size, fun k hk _ => hb.block k hk⟩
  exact ⟨v, he, ⟨hr, hq⟩, h1.quiet hq⟩
theorem Kx.set0 (h : Kx w B p s x y z vr l V) (r : Nat) : Kx w B p s ⟨x.key, r⟩ y z vr l (V.setCell ⟨s, 1, none⟩ (.int .u64 r)) := by
  have hf := Fr.setCell V ⟨s, 1, none⟩ (.int .u64 r)
  have hs : s + 2 < V.heap.size := (Array.getElem?_eq_some_iff.1 h.b2).1
  have hsp : ∀ i, s ≤ i → i < s + 3 → vr.ownBlock ≠ some i := fun i h1 h2 e => by rcases h.ap i e with h3 | h3 <;> omega
  have hpb : PoolAt (V.setCell ⟨s, 1, none⟩ (.int .u64 r)) B p 2 vr l := h.k.a.fr hf (fun k hk => ⟨by rw [show k = s from hk]; have := h.ps; omega, by rw [show k = s from hk]; exact hsp s (by omega) (by omega)⟩)
  refine ⟨⟨hpb, h.k.bel.trans (hf.below h.k.bel.size (fun i hi => ?_)), h.k.hB⟩, heap_setCell_same V s 1 _ _ _ h.b0, (hf.block (s + 1) (by omega) (fun e => by have : s + 1 = s := e; omega)).trans h.b1, (hf.block (s + 2) hs (fun e => by have : s + 2 = s := e; omega)).trans h.b2, h.ps, h.ap⟩
  rw [show i = s from hi]
  have := h.ps
  have := h.k.a.bp
  have := h.k.hB
  omega
theorem Kx.set1 (h : Kx w B p s x y z vr l V) (r : Nat) : Kx w B p s x ⟨y.key, r⟩ z vr l (V.setCell ⟨s + 1, 1, none⟩ (.int .u64 r)) := by
  have hf := Fr.setCell V ⟨s + 1, 1, none⟩ (.int .u64 r)
  have hs : s + 2 < V.heap.size := (Array.getElem?_eq_some_iff.1 h.b2).1
  have hsp : ∀ i, s ≤ i → i < s + 3 → vr.ownBlock ≠ some i := fun i h1 h2 e => by rcases h.ap i e with h3 | h3 <;> omega
  have hpb : PoolAt (V.setCell ⟨s + 1, 1, none⟩ (.int .u64 r)) B p 2 vr l := h.k.a.fr hf (fun k hk => ⟨by rw [show k = s + 1 from hk]; have := h.ps; omega, by rw [show k = s + 1 from hk]; exact hsp _ (by omega) (by omega)⟩)
  refine ⟨⟨hpb, h.k.bel.trans (hf.below h.k.bel.size (fun i hi => ?_)), h.k.hB⟩, (hf.block s (by omega) (fun e => by have : s = s + 1 := e; omega)).trans h.b0, heap_setCell_same V (s + 1) 1 _ _ _ h.b1, (hf.block (s + 2) hs (fun e => by have : s + 2 = s + 1 := e; omega)).trans h.b2, h.ps, h.ap⟩
  rw [show i = s + 1 from hi]
  have := h.ps
  have := h.k.a.bp
  have := h.k.hB
  omega
end
theorem rd_lit (w : World) (a b : Cd) : RdC (w.alloc (.cells #[.string a.key, .int .u64 a.rank, .string b.key, .int .u64 b.rank] 73)) 2 (.slice (some ⟨w.heap.size, 0, none⟩) 2 2) [a, b].length (clC [a, b]) :=
  RdC.of_owns (World.ownsRow_lit (base := 0) w _ 2 (Nat.zero_le _) (by decide) rfl)
theorem same_lit (wc : World) (vc : Value) (a b : Cd) {V : World} (h : wc.ownsRow V.heap.size 73 2 vc [a, b].length (clC [a, b]) ∧ Fr (fun _ => False) V wc) :
    Calls Try.prog 50 #[vc, .slice (some ⟨wc.heap.size, 0, none⟩) 2 2] (wc.alloc (.cells #[.string a.key, .int .u64 a.rank, .string b.key, .int .u64 b.rank] 73)) fun e w' => e = .returned (.bool true) ∧ Fr (fun _ => False) (wc.alloc (.cells #[.string a.key, .int .u64 a.rank, .string b.key, .int .u64 b.rank] 73)) w' := by
  refine (sameC_any _ _ _ [a, b] [a, b] ((RdC.of_owns h.1).fr (Fr.alloc (fun _ => False) _ _) (fun _ _ h => h)) (rd_lit wc a b)).mono ?_
  rintro e w' ⟨he, hf⟩
  exact ⟨by rw [he, decide_eq_true rfl], hf⟩
theorem same_lit2 (w wc : World) (vc : Value) (a b : Cd) (h : wc.ownsRow (w.alloc (.cells #[.string a.key, .int .u64 a.rank, .string b.key, .int .u64 b.rank] 73)).heap.size 73 2 vc [a, b].length (clC [a, b]) ∧ Fr (fun _ => False) (w.alloc (.cells #[.string a.key, .int .u64 a.rank, .string b.key, .int .u64 b.rank] 73)) wc) :
    Calls Try.prog 50 #[vc, .slice (some ⟨w.heap.size, 0, none⟩) 2 2] wc fun e w' => e = .returned (.bool true) ∧ Fr (fun _ => False) wc w' := by
  refine (sameC_any _ _ _ [a, b] [a, b] (RdC.of_owns h.1) ((rd_lit w a b).fr h.2 (fun _ _ h => h))).mono ?_
  rintro e w' ⟨he, hf⟩
  exact ⟨by rw [he, decide_eq_true rfl], hf⟩
set_option maxRecDepth 100000 in
set_option maxHeartbeats 8000000 in
theorem poolKnown_walk (w : World) : Calls Try.prog 10 #[] w fun e w' => e = .returned (.bool true) ∧ Below w.heap.size w w' := by
  go_enter Try.func10, Try.ntmps10
  go_wp2_with fail
  refine (wakes14_any _).mono ?_
  rintro e w1 ⟨rfl, hb1⟩
  have HB1 := Lib.hid hb1
  clear hb1
  go_wp2_with fail
  refine (newPool_any w1 2 (by decide) (by decide)).mono ?_
  rintro e w2 ⟨p, rfl, hp, hb⟩
  have HK2 : Hid (Pw w w1.heap.size p 2 (.slice none 0 0) [] w2) := ⟨hp, HB1.out.trans (hb.mono HB1.out.size), HB1.out.size⟩
  have hpw := hp.lt
  clear hp hb
  go_wp2_with fail
  obtain ⟨W3, hW3⟩ : ∃ W, (((w2.alloc (.cells #[.string ⟨#[97]⟩, .int .u64 5] 73)).alloc (.cells #[.string ⟨#[98]⟩, .int .u64 3] 73)).alloc (.cells #[.string ⟨#[99]⟩, .int .u64 4] 73)) = W := ⟨_, rfl⟩
  have hX3 : Hid (Kx w w1.heap.size p w2.heap.size k5 k3 k4 (.slice none 0 0) [] W3) := by
    have s1 : (w2.alloc (.cells #[.string ⟨#[97]⟩, .int .u64 5] 73)).heap.size = w2.heap.size + 1 := by simp
    have s2 : ((w2.alloc (.cells #[.string ⟨#[97]⟩, .int .u64 5] 73)).alloc (.cells #[.string ⟨#[98]⟩, .int .u64 3] 73)).heap.size = w2.heap.size + 2 := by simp
    have b2 := alloc_at ((w2.alloc (.cells #[.string ⟨#[97]⟩, .int .u64 5] 73)).alloc (.cells #[.string ⟨#[98]⟩, .int .u64 3] 73)) (.cells #[.string ⟨#[99]⟩, .int .u64 4] 73)
    have b1 := alloc_at (w2.alloc (.cells #[.string ⟨#[97]⟩, .int .u64 5] 73)) (.cells #[.string ⟨#[98]⟩, .int .u64 3] 73)
    have b0 := alloc_at w2 (.cells #[.string ⟨#[97]⟩, .int .u64 5] 73)
    rw [s2, hW3] at b2
    rw [s1] at b1
    have q1 := (Below.heap_alloc ((w2.alloc (.cells #[.string ⟨#[97]⟩, .int .u64 5] 73)).alloc (.cells #[.string ⟨#[98]⟩, .int .u64 3] 73)) (.cells #[.string ⟨#[99]⟩, .int .u64 4] 73) (w2.heap.size + 1) (by rw [s2]; omega)).trans b1
    have q0 := (Below.heap_alloc ((w2.alloc (.cells #[.string ⟨#[97]⟩, .int .u64 5] 73)).alloc (.cells #[.string ⟨#[98]⟩, .int .u64 3] 73)) (.cells #[.string ⟨#[99]⟩, .int .u64 4] 73) w2.heap.size (by rw [s2]; omega)).trans ((Below.heap_alloc (w2.alloc (.cells #[.string ⟨#[97]⟩, .int .u64 5] 73)) (.cells #[.string ⟨#[98]⟩, .int .u64 3] 73) w2.heap.size (by rw [s1]; omega)).trans b0)
    rw [hW3] at q1 q0
    refine ⟨HK2.out.quiet ?_, q0, q1, b2, hpw, fun g hg => by cases hg⟩
    rw [← hW3]
    exact ((Fr.alloc _ _ _).thenAlloc _).thenAlloc _
  obtain ⟨s, hs⟩ : ∃ s, w2.heap.size = s := ⟨_, rfl⟩
  rw [hW3]
  rw [hs] at hX3 ⊢
  obtain ⟨⟨c0, c1⟩, ⟨d0, d1⟩, ⟨f0, f1⟩⟩ := hX3.out.cells
  clear hW3 hs HK2 hpw c0 c1 d0 d1 f0 f1
  go_upto_region 7 with fail
  go_cut [58] from 25 to 58 (fun t wc => t = .bool false ∧ ∃ vr, Hid (Kx w w1.heap.size p s k5 k3 k4 vr [k3, k4] wc))
  case first =>
      refine wp_region_held_drew (S := (fun V => (V.cell? ⟨s, 0, none⟩ = some (.string ⟨#[97]⟩) ∧ V.cell? ⟨s, 1, none⟩ = some (.int .u64 5)) ∧ (V.cell? ⟨s + 1, 0, none⟩ = some (.string ⟨#[98]⟩) ∧ V.cell? ⟨s + 1, 1, none⟩ = some (.int .u64 3)) ∧ (V.cell? ⟨s + 2, 0, none⟩ = some (.string ⟨#[99]⟩) ∧ V.cell? ⟨s + 2, 1, none⟩ = some (.int .u64 4)))) (by kernel_rfl) ?_ (fun hHeld => ?_)
      · exact (hX3.out.quiet (Fr.drew _ _)).cells
      refine takeH (i := 0) (d := 25) (v := ?va0) rfl (by kernel_rfl) (by kernel_rfl) (by kernel_rfl) (by kernel_rfl) (fun _ _ _ h => h) (Or.inl ⟨by kernel_rfl, ?hya0⟩) hHeld ?resta0
      case hya0 =>
        intro w hSw
        try dsimp only at hSw
        first | (go_simp; done) | (go_simp; with_reducible rfl)
      try simp only [Act.put, List.setIfInBounds_toArray, List.set_cons_zero, List.set_cons_succ]
      refine takeH (i := 1) (d := 26) (v := ?va1) rfl (by kernel_rfl) (by kernel_rfl) (by kernel_rfl) (by kernel_rfl) (fun _ _ _ h => h) (Or.inl ⟨by kernel_rfl, ?hya1⟩) hHeld ?resta1
      case hya1 =>
        intro w hSw
        try dsimp only at hSw
        first | (go_simp; done) | (go_simp; with_reducible rfl)
      try simp only [Act.put, List.setIfInBounds_toArray, List.set_cons_zero, List.set_cons_succ]
      refine takeH (i := 2) (d := 27) (v := ?va2) rfl (by kernel_rfl) (by kernel_rfl) (by kernel_rfl) (by kernel_rfl) (fun _ _ _ h => h) (Or.inl ⟨by kernel_rfl, ?hya2⟩) hHeld ?resta2
      case hya2 =>
        intro w hSw
        try dsimp only at hSw
        first | (go_simp; done) | (go_simp; with_reducible rfl)
      try simp only [Act.put, List.setIfInBounds_toArray, List.set_cons_zero, List.set_cons_succ]
      refine takeH (i := 3) (d := 28) (v := ?va3) rfl (by kernel_rfl) (by kernel_rfl) (by kernel_rfl) (by kernel_rfl) (fun _ _ _ h => h) (Or.inl ⟨by kernel_rfl, ?hya3⟩) hHeld ?resta3
      case hya3 =>
        intro w hSw
        try dsimp only at hSw
        first | (go_simp; done) | (go_simp; with_reducible rfl)
      try simp only [Act.put, List.setIfInBounds_toArray, List.set_cons_zero, List.set_cons_succ]
      refine takeH (i := 4) (d := 29) (v := ?va4) rfl (by kernel_rfl) (by kernel_rfl) (by kernel_rfl) (by kernel_rfl) (fun _ _ _ h => h) (Or.inl ⟨by kernel_rfl, ?hya4⟩) hHeld ?resta4
      case hya4 =>
        intro w hSw
        try dsimp only at hSw
        first | (go_simp; done) | (go_simp; with_reducible rfl)
      try simp only [Act.put, List.setIfInBounds_toArray, List.set_cons_zero, List.set_cons_succ]
      refine wpAnyH_ready (rs := [5]) (by kernel_rfl) (by simp) ?_
      refine AllReadyH.cons rfl (fun K hK => ?_) AllReadyH.nil
      have HH := Lib.hid hHeld
      clear hHeld
      go_simp
      go_at_call 46
      refine (hX3.out.callOffer (Fr.drew _ _) k5 (by decide) u1 (show _ = [k5] by rw [t1]; rfl)).mono ?_
      rintro e w4 ⟨v4, rfl, HX4⟩
      refine hK.out _ _ ?_ (fun hNew => ?_)
      · exact HX4.out.cells
      clear hK K HH
      have hHeld := hNew
      clear hNew
      try simp only [Act.put, List.setIfInBounds_toArray, List.set_cons_zero, List.set_cons_succ]
      refine takeH (i := 6) (d := 31) (v := ?va5) rfl (by kernel_rfl) (by kernel_rfl) (by kernel_rfl) (by kernel_rfl) (fun _ _ _ h => h) (Or.inl ⟨by kernel_rfl, ?hya5⟩) hHeld ?resta5
      case hya5 =>
        intro w hSw
        try dsimp only at hSw
        first | (go_simp; done) | (go_simp; with_reducible rfl)
      try simp only [Act.put, List.setIfInBounds_toArray, List.set_cons_zero, List.set_cons_succ]
      refine takeH (i := 7) (d := 32) (v := ?va6) rfl (by kernel_rfl) (by kernel_rfl) (by kernel_rfl) (by kernel_rfl) (fun _ _ _ h => h) (Or.inl ⟨by kernel_rfl, ?hya6⟩) hHeld ?resta6
      case hya6 =>
        intro w hSw
        try dsimp only at hSw
        first | (go_simp; done) | (go_simp; with_reducible rfl)
      try simp only [Act.put, List.setIfInBounds_toArray, List.set_cons_zero, List.set_cons_succ]
      refine takeH (i := 8) (d := 33) (v := ?va7) rfl (by kernel_rfl) (by kernel_rfl) (by kernel_rfl) (by kernel_rfl) (fun _ _ _ h => h) (Or.inl ⟨by kernel_rfl, ?hya7⟩) hHeld ?resta7
      case hya7 =>
        intro w hSw
        try dsimp only at hSw
        first | (go_simp; done) | (go_simp; with_reducible rfl)
      try simp only [Act.put, List.setIfInBounds_toArray, List.set_cons_zero, List.set_cons_succ]
      refine takeH (i := 9) (d := 34) (v := ?va8) rfl (by kernel_rfl) (by kernel_rfl) (by kernel_rfl) (by kernel_rfl) (fun _ _ _ h => h) (Or.inl ⟨by kernel_rfl, ?hya8⟩) hHeld ?resta8
      case hya8 =>
        intro w hSw
        try dsimp only at hSw
        first | (go_simp; done) | (go_simp; with_reducible rfl)
      try simp only [Act.put, List.setIfInBounds_toArray, List.set_cons_zero, List.set_cons_succ]
      refine takeH (i := 10) (d := 35) (v := ?va9) rfl (by kernel_rfl) (by kernel_rfl) (by kernel_rfl) (by kernel_rfl) (fun _ _ _ h => h) (Or.inl ⟨by kernel_rfl, ?hya9⟩) hHeld ?resta9
      case hya9 =>
        intro w hSw
        try dsimp only at hSw
        first | (go_simp; done) | (go_simp; with_reducible rfl)
      try simp only [Act.put, List.setIfInBounds_toArray, List.set_cons_zero, List.set_cons_succ]
      refine wpAnyH_ready (rs := [11]) (by kernel_rfl) (by simp) ?_
      refine AllReadyH.cons rfl (fun K hK => ?_) AllReadyH.nil
      have HH := Lib.hid hHeld
      clear hHeld
      go_simp
      go_at_call 46
      refine (HX4.out.callOffer (Fr.refl _ _) k3 (by decide) u2 (show _ = [k3, k5] by rw [t2]; rfl)).mono ?_
      rintro e w5 ⟨v5, rfl, HX5⟩
      refine hK.out _ _ ?_ (fun hNew => ?_)
      · exact HX5.out.cells
      clear hK K HH
      have hHeld := hNew
      clear hNew
      try simp only [Act.put, List.setIfInBounds_toArray, List.set_cons_zero, List.set_cons_succ]
      refine takeH (i := 12) (d := 37) (v := ?va10) rfl (by kernel_rfl) (by kernel_rfl) (by kernel_rfl) (by kernel_rfl) (fun _ _ _ h => h) (Or.inl ⟨by kernel_rfl, ?hya10⟩) hHeld ?resta10
      case hya10 =>
        intro w hSw
        try dsimp only at hSw
        first | (go_simp; done) | (go_simp; with_reducible rfl)
      try simp only [Act.put, List.setIfInBounds_toArray, List.set_cons_zero, List.set_cons_succ]
      refine takeH (i := 13) (d := 38) (v := ?va11) rfl (by kernel_rfl) (by kernel_rfl) (by kernel_rfl) (by kernel_rfl) (fun _ _ _ h => h) (Or.inl ⟨by kernel_rfl, ?hya11⟩) hHeld ?resta11
      case hya11 =>
        intro w hSw
        try dsimp only at hSw
        first | (go_simp; done) | (go_simp; with_reducible rfl)
      try simp only [Act.put, List.setIfInBounds_toArray, List.set_cons_zero, List.set_cons_succ]
      refine takeH (i := 14) (d := 39) (v := ?va12) rfl (by kernel_rfl) (by kernel_rfl) (by kernel_rfl) (by kernel_rfl) (fun _ _ _ h => h) (Or.inl ⟨by kernel_rfl, ?hya12⟩) hHeld ?resta12
      case hya12 =>
        intro w hSw
        try dsimp only at hSw
        first | (go_simp; done) | (go_simp; with_reducible rfl)
      try simp only [Act.put, List.setIfInBounds_toArray, List.set_cons_zero, List.set_cons_succ]
      refine takeH (i := 15) (d := 40) (v := ?va13) rfl (by kernel_rfl) (by kernel_rfl) (by kernel_rfl) (by kernel_rfl) (fun _ _ _ h => h) (Or.inl ⟨by kernel_rfl, ?hya13⟩) hHeld ?resta13
      case hya13 =>
        intro w hSw
        try dsimp only at hSw
        first | (go_simp; done) | (go_simp; with_reducible rfl)
      try simp only [Act.put, List.setIfInBounds_toArray, List.set_cons_zero, List.set_cons_succ]
      refine takeH (i := 16) (d := 41) (v := ?va14) rfl (by kernel_rfl) (by kernel_rfl) (by kernel_rfl) (by kernel_rfl) (fun _ _ _ h => h) (Or.inl ⟨by kernel_rfl, ?hya14⟩) hHeld ?resta14
      case hya14 =>
        intro w hSw
        try dsimp only at hSw
        first | (go_simp; done) | (go_simp; with_reducible rfl)
      try simp only [Act.put, List.setIfInBounds_toArray, List.set_cons_zero, List.set_cons_succ]
      refine wpAnyH_ready (rs := [17]) (by kernel_rfl) (by simp) ?_
      refine AllReadyH.cons rfl (fun K hK => ?_) AllReadyH.nil
      have HH := Lib.hid hHeld
      clear hHeld
      go_simp
      go_at_call 46
      refine (HX5.out.callOffer (Fr.refl _ _) k9 (by decide) u3 (show _ = [k3, k5] by rw [t3]; rfl)).mono ?_
      rintro e w6 ⟨v6, rfl, HX6⟩
      refine hK.out _ _ ?_ (fun hNew => ?_)
      · exact HX6.out.cells
      clear hK K HH
      have hHeld := hNew
      clear hNew
      try simp only [Act.put, List.setIfInBounds_toArray, List.set_cons_zero, List.set_cons_succ]
      refine takeH (i := 18) (d := 43) (v := ?va15) rfl (by kernel_rfl) (by kernel_rfl) (by kernel_rfl) (by kernel_rfl) (fun _ _ _ h => h) (Or.inl ⟨by kernel_rfl, ?hya15⟩) hHeld ?resta15
      case hya15 =>
        intro w hSw
        try dsimp only at hSw
        first | (go_simp; done) | (go_simp; with_reducible rfl)
      try simp only [Act.put, List.setIfInBounds_toArray, List.set_cons_zero, List.set_cons_succ]
      refine takeH (i := 19) (d := 44) (v := ?va16) rfl (by kernel_rfl) (by kernel_rfl) (by kernel_rfl) (by kernel_rfl) (fun _ _ _ h => h) (Or.inl ⟨by kernel_rfl, ?hya16⟩) hHeld ?resta16
      case hya16 =>
        intro w hSw
        try dsimp only at hSw
        first | (go_simp; done) | (go_simp; with_reducible rfl)
      try simp only [Act.put, List.setIfInBounds_toArray, List.set_cons_zero, List.set_cons_succ]
      refine takeH (i := 20) (d := 45) (v := ?va17) rfl (by kernel_rfl) (by kernel_rfl) (by kernel_rfl) (by kernel_rfl) (fun _ _ _ h => h) (Or.inl ⟨by kernel_rfl, ?hya17⟩) hHeld ?resta17
      case hya17 =>
        intro w hSw
        try dsimp only at hSw
        first | (go_simp; done) | (go_simp; with_reducible rfl)
      try simp only [Act.put, List.setIfInBounds_toArray, List.set_cons_zero, List.set_cons_succ]
      refine takeH (i := 21) (d := 46) (v := ?va18) rfl (by kernel_rfl) (by kernel_rfl) (by kernel_rfl) (by kernel_rfl) (fun _ _ _ h => h) (Or.inl ⟨by kernel_rfl, ?hya18⟩) hHeld ?resta18
      case hya18 =>
        intro w hSw
        try dsimp only at hSw
        first | (go_simp; done) | (go_simp; with_reducible rfl)
      try simp only [Act.put, List.setIfInBounds_toArray, List.set_cons_zero, List.set_cons_succ]
      refine wpAnyH_ready (rs := [22]) (by kernel_rfl) (by simp) ?_
      refine AllReadyH.cons rfl (fun K hK => ?_) AllReadyH.nil
      have HH := Lib.hid hHeld
      clear hHeld
      go_simp
      go_at_call 46
      refine (HX6.out.callOffer (Fr.refl _ _) k4 (by decide) u4 (show _ = [k3, k4] by rw [t4]; rfl)).mono ?_
      rintro e w7 ⟨v7, rfl, HX7⟩
      refine hK.out _ _ ?_ (fun hNew => ?_)
      · exact HX7.out.cells
      clear hK K HH
      have hHeld := hNew
      clear hNew
      try simp only [Act.put, List.setIfInBounds_toArray, List.set_cons_zero, List.set_cons_succ]
      refine takeH (i := 23) (d := 48) (v := ?va19) rfl (by kernel_rfl) (by kernel_rfl) (by kernel_rfl) (by kernel_rfl) (fun _ _ _ h => h) (Or.inl ⟨by kernel_rfl, ?hya19⟩) hHeld ?resta19
      case hya19 =>
        intro w hSw
        try dsimp only at hSw
        first | (go_simp; done) | (go_simp; with_reducible rfl)
      try simp only [Act.put, List.setIfInBounds_toArray, List.set_cons_zero, List.set_cons_succ]
      refine takeH (i := 24) (d := 49) (v := ?va20) rfl (by kernel_rfl) (by kernel_rfl) (by kernel_rfl) (by kernel_rfl) (fun _ _ _ h => h) (Or.inl ⟨by kernel_rfl, ?hya20⟩) hHeld ?resta20
      case hya20 =>
        intro w hSw
        try dsimp only at hSw
        first | (go_simp; done) | (go_simp; with_reducible rfl)
      try simp only [Act.put, List.setIfInBounds_toArray, List.set_cons_zero, List.set_cons_succ]
      refine takeH (i := 25) (d := 50) (v := ?va21) rfl (by kernel_rfl) (by kernel_rfl) (by kernel_rfl) (by kernel_rfl) (fun _ _ _ h => h) (Or.inl ⟨by kernel_rfl, ?hya21⟩) hHeld ?resta21
      case hya21 =>
        intro w hSw
        try dsimp only at hSw
        first | (go_simp; done) | (go_simp; with_reducible rfl)
      try simp only [Act.put, List.setIfInBounds_toArray, List.set_cons_zero, List.set_cons_succ]
      refine takeH (i := 26) (d := 51) (v := ?va22) rfl (by kernel_rfl) (by kernel_rfl) (by kernel_rfl) (by kernel_rfl) (fun _ _ _ h => h) (Or.inl ⟨by kernel_rfl, ?hya22⟩) hHeld ?resta22
      case hya22 =>
        intro w hSw
        try dsimp only at hSw
        first | (go_simp; done) | (go_simp; with_reducible rfl)
      try simp only [Act.put, List.setIfInBounds_toArray, List.set_cons_zero, List.set_cons_succ]
      refine takeH (i := 28) (d := 53) (v := ?va23) rfl (by kernel_rfl) (by kernel_rfl) (by kernel_rfl) (by kernel_rfl) (fun _ _ _ h => h) (Or.inl ⟨by kernel_rfl, ?hya23⟩) hHeld ?resta23
      case hya23 =>
        intro w hSw
        try dsimp only at hSw
        first | (go_simp; done) | (go_simp; with_reducible rfl)
      try simp only [Act.put, List.setIfInBounds_toArray, List.set_cons_zero, List.set_cons_succ]
      refine takeH (i := 29) (d := 54) (v := ?va24) rfl (by kernel_rfl) (by kernel_rfl) (by kernel_rfl) (by kernel_rfl) (fun _ _ _ h => h) (Or.inl ⟨by kernel_rfl, ?hya24⟩) hHeld ?resta24
      case hya24 =>
        intro w hSw
        try dsimp only at hSw
        first | (go_simp; done) | (go_simp; with_reducible rfl)
      try simp only [Act.put, List.setIfInBounds_toArray, List.set_cons_zero, List.set_cons_succ]
      refine wpAnyH_ready (rs := [27, 30]) (by kernel_rfl) (by simp) ?_
      refine AllReadyH.cons rfl (fun K hK => ?_) (AllReadyH.cons rfl (fun K hK => ?_) AllReadyH.nil)
      · have HH := Lib.hid hHeld
        clear hHeld
        go_simp
        go_at_call 47
        refine ((HX7.out.callCand (Fr.refl _ _))).mono ?_
        rintro e wc ⟨vc, rfl, HRc, HXc⟩
        refine hK.out _ _ ?_ (fun hNew => ?_)
        · exact HXc.out.cells
        clear hK K HH
        have hHeld := hNew
        clear hNew
        try simp only [Act.put, List.setIfInBounds_toArray, List.set_cons_zero, List.set_cons_succ]
        refine wpAnyH_ready (rs := [30]) (by kernel_rfl) (by simp) ?_
        refine AllReadyH.cons rfl (fun K hK => ?_) AllReadyH.nil
        have HH := Lib.hid hHeld
        clear hHeld
        go_simp
        skip
        refine hK.out _ _ ?_ (fun hNew => ?_)
        · exact (HXc.out.quiet (Fr.alloc _ _ _)).cells
        clear hK K HH
        have hHeld := hNew
        clear hNew
        try simp only [Act.put, List.setIfInBounds_toArray, List.set_cons_zero, List.set_cons_succ]
        refine wpAnyH_ready (rs := [31]) (by kernel_rfl) (by simp) ?_
        refine AllReadyH.cons rfl (fun K hK => ?_) AllReadyH.nil
        have HH := Lib.hid hHeld
        clear hHeld
        go_simp
        go_at_call 50
        refine (same_lit wc vc k3 k4 HRc.out).mono ?_
        rintro e wd ⟨rfl, hfd⟩
        have HXd := Lib.hid (HXc.out.quiet ((Fr.alloc _ _ _).wide hfd (fun _ h => h.elim)))
        refine hK.out _ _ ?_ (fun hNew => ?_)
        · exact HXd.out.cells
        clear hK K HH
        have hHeld := hNew
        clear hNew
        try simp only [Act.put, List.setIfInBounds_toArray, List.set_cons_zero, List.set_cons_succ]
        refine takeH (i := 32) (d := 57) (v := ?va25) rfl (by kernel_rfl) (by kernel_rfl) (by kernel_rfl) (by kernel_rfl) (fun _ _ _ h => h) (Or.inl ⟨by kernel_rfl, ?hya25⟩) hHeld ?resta25
        case hya25 =>
          intro w hSw
          try dsimp only at hSw
          first | (go_simp; done) | (go_simp; with_reducible rfl)
        try simp only [Act.put, List.setIfInBounds_toArray, List.set_cons_zero, List.set_cons_succ]
        refine takeH (i := 33) (d := 58) (v := ?va26) rfl (by kernel_rfl) (by kernel_rfl) (by kernel_rfl) (by kernel_rfl) (fun _ _ _ h => h) (Or.inl ⟨by kernel_rfl, ?hya26⟩) hHeld ?resta26
        case hya26 =>
          intro w hSw
          try dsimp only at hSw
          first | (go_simp; done) | (go_simp; with_reducible rfl)
        try simp only [Act.put, List.setIfInBounds_toArray, List.set_cons_zero, List.set_cons_succ]
        refine wpAnyH_done (by kernel_rfl) ?_ _
        go_wp2_with fail
        go_meet
        case rel => exact ⟨rfl, _, HXd⟩
      · have HH := Lib.hid hHeld
        clear hHeld
        go_simp
        skip
        refine hK.out _ _ ?_ (fun hNew => ?_)
        · exact (HX7.out.quiet (Fr.alloc _ _ _)).cells
        clear hK K HH
        have hHeld := hNew
        clear hNew
        try simp only [Act.put, List.setIfInBounds_toArray, List.set_cons_zero, List.set_cons_succ]
        refine wpAnyH_ready (rs := [27]) (by kernel_rfl) (by simp) ?_
        refine AllReadyH.cons rfl (fun K hK => ?_) AllReadyH.nil
        have HH := Lib.hid hHeld
        clear hHeld
        go_simp
        go_at_call 47
        refine ((HX7.out.callCand (Fr.alloc _ _ _))).mono ?_
        rintro e wc ⟨vc, rfl, HRc, HXc⟩
        refine hK.out _ _ ?_ (fun hNew => ?_)
        · exact HXc.out.cells
        clear hK K HH
        have hHeld := hNew
        clear hNew
        try simp only [Act.put, List.setIfInBounds_toArray, List.set_cons_zero, List.set_cons_succ]
        refine wpAnyH_ready (rs := [31]) (by kernel_rfl) (by simp) ?_
        refine AllReadyH.cons rfl (fun K hK => ?_) AllReadyH.nil
        have HH := Lib.hid hHeld
        clear hHeld
        go_simp
        go_at_call 50
        refine (same_lit2 w7 wc vc k3 k4 HRc.out).mono ?_
        rintro e wd ⟨rfl, hfd⟩
        have HXd := Lib.hid (HXc.out.quiet hfd)
        refine hK.out _ _ ?_ (fun hNew => ?_)
        · exact HXd.out.cells
        clear hK K HH
        have hHeld := hNew
        clear hNew
        try simp only [Act.put, List.setIfInBounds_toArray, List.set_cons_zero, List.set_cons_succ]
        refine takeH (i := 32) (d := 57) (v := ?va27) rfl (by kernel_rfl) (by kernel_rfl) (by kernel_rfl) (by kernel_rfl) (fun _ _ _ h => h) (Or.inl ⟨by kernel_rfl, ?hya27⟩) hHeld ?resta27
        case hya27 =>
          intro w hSw
          try dsimp only at hSw
          first | (go_simp; done) | (go_simp; with_reducible rfl)
        try simp only [Act.put, List.setIfInBounds_toArray, List.set_cons_zero, List.set_cons_succ]
        refine takeH (i := 33) (d := 58) (v := ?va28) rfl (by kernel_rfl) (by kernel_rfl) (by kernel_rfl) (by kernel_rfl) (fun _ _ _ h => h) (Or.inl ⟨by kernel_rfl, ?hya28⟩) hHeld ?resta28
        case hya28 =>
          intro w hSw
          try dsimp only at hSw
          first | (go_simp; done) | (go_simp; with_reducible rfl)
        try simp only [Act.put, List.setIfInBounds_toArray, List.set_cons_zero, List.set_cons_succ]
        refine wpAnyH_done (by kernel_rfl) ?_ _
        go_wp2_with fail
        go_meet
        case rel => exact ⟨rfl, _, HXd⟩
  case rest =>
    obtain ⟨rfl, v8, HX8⟩ := hcut
    clear hX3
    obtain ⟨⟨c0, c1⟩, ⟨d0, d1⟩, ⟨f0, f1⟩⟩ := HX8.out.cells
    dsimp only [k5, k3, k4] at c0 c1 d0 d1 f0 f1
    have fz := free_of_blk HX8.out.b1 1
    obtain ⟨w8, rfl⟩ : ∃ x, x = wc := ⟨_, rfl⟩
    go_wp2_with fail
    obtain ⟨W9, hW9⟩ : ∃ W, w8.setCell ⟨s + 1, 1, none⟩ (.int .u64 7) = W := ⟨_, rfl⟩
    rw [hW9]
    replace HX8 : Hid (Kx w w1.heap.size p s k5 b7 k4 v8 [k3, k4] W9) := by rw [← hW9]; exact HX8.out.set1 7
    clear hW9 c0 c1 d0 d1 f0 f1 fz
    go_cut [72] from 60 to 72 (fun t wc => t = .bool false ∧ ∃ vr, Hid (Kx w w1.heap.size p s k5 b7 k4 vr [k4, b7] wc))
    case first =>
      refine wp_region_held_drew (S := (fun V => (V.cell? ⟨s, 0, none⟩ = some (.string ⟨#[97]⟩) ∧ V.cell? ⟨s, 1, none⟩ = some (.int .u64 5)) ∧ (V.cell? ⟨s + 1, 0, none⟩ = some (.string ⟨#[98]⟩) ∧ V.cell? ⟨s + 1, 1, none⟩ = some (.int .u64 7)) ∧ (V.cell? ⟨s + 2, 0, none⟩ = some (.string ⟨#[99]⟩) ∧ V.cell? ⟨s + 2, 1, none⟩ = some (.int .u64 4)))) (by kernel_rfl) ?_ (fun hHeld => ?_)
      · exact (HX8.out.quiet (Fr.drew _ _)).cells
      refine takeH (i := 0) (d := 60) (v := ?vb0) rfl (by kernel_rfl) (by kernel_rfl) (by kernel_rfl) (by kernel_rfl) (fun _ _ _ h => h) (Or.inl ⟨by kernel_rfl, ?hyb0⟩) hHeld ?restb0
      case hyb0 =>
        intro w hSw
        try dsimp only at hSw
        first | (go_simp; done) | (go_simp; with_reducible rfl)
      try simp only [Act.put, List.setIfInBounds_toArray, List.set_cons_zero, List.set_cons_succ]
      refine takeH (i := 1) (d := 61) (v := ?vb1) rfl (by kernel_rfl) (by kernel_rfl) (by kernel_rfl) (by kernel_rfl) (fun _ _ _ h => h) (Or.inl ⟨by kernel_rfl, ?hyb1⟩) hHeld ?restb1
      case hyb1 =>
        intro w hSw
        try dsimp only at hSw
        first | (go_simp; done) | (go_simp; with_reducible rfl)
      try simp only [Act.put, List.setIfInBounds_toArray, List.set_cons_zero, List.set_cons_succ]
      refine wpAnyH_ready (rs := [2]) (by kernel_rfl) (by simp) ?_
      refine AllReadyH.cons rfl (fun K hK => ?_) AllReadyH.nil
      have HH := Lib.hid hHeld
      clear hHeld
      go_simp
      go_at_call 46
      refine (HX8.out.callOffer (Fr.drew _ _) b7 (by decide) u5 (show _ = [k4, b7] by rw [t5]; rfl)).mono ?_
      rintro e w9 ⟨v9, rfl, HX9⟩
      refine hK.out _ _ ?_ (fun hNew => ?_)
      · exact HX9.out.cells
      clear hK K HH
      have hHeld := hNew
      clear hNew
      try simp only [Act.put, List.setIfInBounds_toArray, List.set_cons_zero, List.set_cons_succ]
      refine takeH (i := 3) (d := 63) (v := ?vb2) rfl (by kernel_rfl) (by kernel_rfl) (by kernel_rfl) (by kernel_rfl) (fun _ _ _ h => h) (Or.inl ⟨by kernel_rfl, ?hyb2⟩) hHeld ?restb2
      case hyb2 =>
        intro w hSw
        try dsimp only at hSw
        first | (go_simp; done) | (go_simp; with_reducible rfl)
      try simp only [Act.put, List.setIfInBounds_toArray, List.set_cons_zero, List.set_cons_succ]
      refine takeH (i := 4) (d := 64) (v := ?vb3) rfl (by kernel_rfl) (by kernel_rfl) (by kernel_rfl) (by kernel_rfl) (fun _ _ _ h => h) (Or.inl ⟨by kernel_rfl, ?hyb3⟩) hHeld ?restb3
      case hyb3 =>
        intro w hSw
        try dsimp only at hSw
        first | (go_simp; done) | (go_simp; with_reducible rfl)
      try simp only [Act.put, List.setIfInBounds_toArray, List.set_cons_zero, List.set_cons_succ]
      refine takeH (i := 5) (d := 65) (v := ?vb4) rfl (by kernel_rfl) (by kernel_rfl) (by kernel_rfl) (by kernel_rfl) (fun _ _ _ h => h) (Or.inl ⟨by kernel_rfl, ?hyb4⟩) hHeld ?restb4
      case hyb4 =>
        intro w hSw
        try dsimp only at hSw
        first | (go_simp; done) | (go_simp; with_reducible rfl)
      try simp only [Act.put, List.setIfInBounds_toArray, List.set_cons_zero, List.set_cons_succ]
      refine takeH (i := 7) (d := 67) (v := ?vb5) rfl (by kernel_rfl) (by kernel_rfl) (by kernel_rfl) (by kernel_rfl) (fun _ _ _ h => h) (Or.inl ⟨by kernel_rfl, ?hyb5⟩) hHeld ?restb5
      case hyb5 =>
        intro w hSw
        try dsimp only at hSw
        first | (go_simp; done) | (go_simp; with_reducible rfl)
      try simp only [Act.put, List.setIfInBounds_toArray, List.set_cons_zero, List.set_cons_succ]
      refine takeH (i := 8) (d := 68) (v := ?vb6) rfl (by kernel_rfl) (by kernel_rfl) (by kernel_rfl) (by kernel_rfl) (fun _ _ _ h => h) (Or.inl ⟨by kernel_rfl, ?hyb6⟩) hHeld ?restb6
      case hyb6 =>
        intro w hSw
        try dsimp only at hSw
        first | (go_simp; done) | (go_simp; with_reducible rfl)
      try simp only [Act.put, List.setIfInBounds_toArray, List.set_cons_zero, List.set_cons_succ]
      refine wpAnyH_ready (rs := [6, 9]) (by kernel_rfl) (by simp) ?_
      refine AllReadyH.cons rfl (fun K hK => ?_) (AllReadyH.cons rfl (fun K hK => ?_) AllReadyH.nil)
      · have HH := Lib.hid hHeld
        clear hHeld
        go_simp
        go_at_call 47
        refine ((HX9.out.callCand (Fr.refl _ _))).mono ?_
        rintro e wc ⟨vc, rfl, HRc, HXc⟩
        refine hK.out _ _ ?_ (fun hNew => ?_)
        · exact HXc.out.cells
        clear hK K HH
        have hHeld := hNew
        clear hNew
        try simp only [Act.put, List.setIfInBounds_toArray, List.set_cons_zero, List.set_cons_succ]
        refine wpAnyH_ready (rs := [9]) (by kernel_rfl) (by simp) ?_
        refine AllReadyH.cons rfl (fun K hK => ?_) AllReadyH.nil
        have HH := Lib.hid hHeld
        clear hHeld
        go_simp
        skip
        refine hK.out _ _ ?_ (fun hNew => ?_)
        · exact (HXc.out.quiet (Fr.alloc _ _ _)).cells
        clear hK K HH
        have hHeld := hNew
        clear hNew
        try simp only [Act.put, List.setIfInBounds_toArray, List.set_cons_zero, List.set_cons_succ]
        refine wpAnyH_ready (rs := [10]) (by kernel_rfl) (by simp) ?_
        refine AllReadyH.cons rfl (fun K hK => ?_) AllReadyH.nil
        have HH := Lib.hid hHeld
        clear hHeld
        go_simp
        go_at_call 50
        refine (same_lit wc vc k4 b7 HRc.out).mono ?_
        rintro e wd ⟨rfl, hfd⟩
        have HXd := Lib.hid (HXc.out.quiet ((Fr.alloc _ _ _).wide hfd (fun _ h => h.elim)))
        refine hK.out _ _ ?_ (fun hNew => ?_)
        · exact HXd.out.cells
        clear hK K HH
        have hHeld := hNew
        clear hNew
        try simp only [Act.put, List.setIfInBounds_toArray, List.set_cons_zero, List.set_cons_succ]
        refine takeH (i := 11) (d := 71) (v := ?vb7) rfl (by kernel_rfl) (by kernel_rfl) (by kernel_rfl) (by kernel_rfl) (fun _ _ _ h => h) (Or.inl ⟨by kernel_rfl, ?hyb7⟩) hHeld ?restb7
        case hyb7 =>
          intro w hSw
          try dsimp only at hSw
          first | (go_simp; done) | (go_simp; with_reducible rfl)
        try simp only [Act.put, List.setIfInBounds_toArray, List.set_cons_zero, List.set_cons_succ]
        refine takeH (i := 12) (d := 72) (v := ?vb8) rfl (by kernel_rfl) (by kernel_rfl) (by kernel_rfl) (by kernel_rfl) (fun _ _ _ h => h) (Or.inl ⟨by kernel_rfl, ?hyb8⟩) hHeld ?restb8
        case hyb8 =>
          intro w hSw
          try dsimp only at hSw
          first | (go_simp; done) | (go_simp; with_reducible rfl)
        try simp only [Act.put, List.setIfInBounds_toArray, List.set_cons_zero, List.set_cons_succ]
        refine wpAnyH_done (by kernel_rfl) ?_ _
        go_wp2_with fail
        go_meet
        case rel => exact ⟨rfl, _, HXd⟩
      · have HH := Lib.hid hHeld
        clear hHeld
        go_simp
        skip
        refine hK.out _ _ ?_ (fun hNew => ?_)
        · exact (HX9.out.quiet (Fr.alloc _ _ _)).cells
        clear hK K HH
        have hHeld := hNew
        clear hNew
        try simp only [Act.put, List.setIfInBounds_toArray, List.set_cons_zero, List.set_cons_succ]
        refine wpAnyH_ready (rs := [6]) (by kernel_rfl) (by simp) ?_
        refine AllReadyH.cons rfl (fun K hK => ?_) AllReadyH.nil
        have HH := Lib.hid hHeld
        clear hHeld
        go_simp
        go_at_call 47
        refine ((HX9.out.callCand (Fr.alloc _ _ _))).mono ?_
        rintro e wc ⟨vc, rfl, HRc, HXc⟩
        refine hK.out _ _ ?_ (fun hNew => ?_)
        · exact HXc.out.cells
        clear hK K HH
        have hHeld := hNew
        clear hNew
        try simp only [Act.put, List.setIfInBounds_toArray, List.set_cons_zero, List.set_cons_succ]
        refine wpAnyH_ready (rs := [10]) (by kernel_rfl) (by simp) ?_
        refine AllReadyH.cons rfl (fun K hK => ?_) AllReadyH.nil
        have HH := Lib.hid hHeld
        clear hHeld
        go_simp
        go_at_call 50
        refine (same_lit2 w9 wc vc k4 b7 HRc.out).mono ?_
        rintro e wd ⟨rfl, hfd⟩
        have HXd := Lib.hid (HXc.out.quiet hfd)
        refine hK.out _ _ ?_ (fun hNew => ?_)
        · exact HXd.out.cells
        clear hK K HH
        have hHeld := hNew
        clear hNew
        try simp only [Act.put, List.setIfInBounds_toArray, List.set_cons_zero, List.set_cons_succ]
        refine takeH (i := 11) (d := 71) (v := ?vb9) rfl (by kernel_rfl) (by kernel_rfl) (by kernel_rfl) (by kernel_rfl) (fun _ _ _ h => h) (Or.inl ⟨by kernel_rfl, ?hyb9⟩) hHeld ?restb9
        case hyb9 =>
          intro w hSw
          try dsimp only at hSw
          first | (go_simp; done) | (go_simp; with_reducible rfl)
        try simp only [Act.put, List.setIfInBounds_toArray, List.set_cons_zero, List.set_cons_succ]
        refine takeH (i := 12) (d := 72) (v := ?vb10) rfl (by kernel_rfl) (by kernel_rfl) (by kernel_rfl) (by kernel_rfl) (fun _ _ _ h => h) (Or.inl ⟨by kernel_rfl, ?hyb10⟩) hHeld ?restb10
        case hyb10 =>
          intro w hSw
          try dsimp only at hSw
          first | (go_simp; done) | (go_simp; with_reducible rfl)
        try simp only [Act.put, List.setIfInBounds_toArray, List.set_cons_zero, List.set_cons_succ]
        refine wpAnyH_done (by kernel_rfl) ?_ _
        go_wp2_with fail
        go_meet
        case rel => exact ⟨rfl, _, HXd⟩
    case rest =>
    obtain ⟨rfl, v10, HX10⟩ := hcut
    clear HX8
    obtain ⟨⟨c0, c1⟩, ⟨d0, d1⟩, ⟨f0, f1⟩⟩ := HX10.out.cells
    dsimp only [k5, b7, k4] at c0 c1 d0 d1 f0 f1
    have fz := free_of_blk HX10.out.b0 1
    obtain ⟨w10, rfl⟩ : ∃ x, x = wc := ⟨_, rfl⟩
    go_wp2_with fail
    obtain ⟨W11, hW11⟩ : ∃ W, w10.setCell ⟨s, 1, none⟩ (.int .u64 7) = W := ⟨_, rfl⟩
    rw [hW11]
    replace HX10 : Hid (Kx w w1.heap.size p s a7 b7 k4 v10 [k4, b7] W11) := by rw [← hW11]; exact HX10.out.set0 7
    clear hW11 c0 c1 d0 d1 f0 f1 fz
    go_cut [91] from 74 to 91 (fun t wc => t = .bool false ∧ ∃ vr, Hid (Kx w w1.heap.size p s a7 b7 k4 vr [k4, a7] wc))
    case first =>
      refine wp_region_held_drew (S := (fun V => (V.cell? ⟨s, 0, none⟩ = some (.string ⟨#[97]⟩) ∧ V.cell? ⟨s, 1, none⟩ = some (.int .u64 7)) ∧ (V.cell? ⟨s + 1, 0, none⟩ = some (.string ⟨#[98]⟩) ∧ V.cell? ⟨s + 1, 1, none⟩ = some (.int .u64 7)) ∧ (V.cell? ⟨s + 2, 0, none⟩ = some (.string ⟨#[99]⟩) ∧ V.cell? ⟨s + 2, 1, none⟩ = some (.int .u64 4)))) (by kernel_rfl) ?_ (fun hHeld => ?_)
      · exact (HX10.out.quiet (Fr.drew _ _)).cells
      refine takeH (i := 0) (d := 74) (v := ?vc0) rfl (by kernel_rfl) (by kernel_rfl) (by kernel_rfl) (by kernel_rfl) (fun _ _ _ h => h) (Or.inl ⟨by kernel_rfl, ?hyc0⟩) hHeld ?restc0
      case hyc0 =>
        intro w hSw
        try dsimp only at hSw
        first | (go_simp; done) | (go_simp; with_reducible rfl)
      try simp only [Act.put, List.setIfInBounds_toArray, List.set_cons_zero, List.set_cons_succ]
      refine takeH (i := 1) (d := 75) (v := ?vc1) rfl (by kernel_rfl) (by kernel_rfl) (by kernel_rfl) (by kernel_rfl) (fun _ _ _ h => h) (Or.inl ⟨by kernel_rfl, ?hyc1⟩) hHeld ?restc1
      case hyc1 =>
        intro w hSw
        try dsimp only at hSw
        first | (go_simp; done) | (go_simp; with_reducible rfl)
      try simp only [Act.put, List.setIfInBounds_toArray, List.set_cons_zero, List.set_cons_succ]
      refine wpAnyH_ready (rs := [2]) (by kernel_rfl) (by simp) ?_
      refine AllReadyH.cons rfl (fun K hK => ?_) AllReadyH.nil
      have HH := Lib.hid hHeld
      clear hHeld
      go_simp
      go_at_call 46
      refine (HX10.out.callOffer (Fr.drew _ _) a7 (by decide) u6 (show _ = [k4, a7] by rw [t6]; rfl)).mono ?_
      rintro e w11 ⟨v11, rfl, HX11⟩
      refine hK.out _ _ ?_ (fun hNew => ?_)
      · exact HX11.out.cells
      clear hK K HH
      have hHeld := hNew
      clear hNew
      try simp only [Act.put, List.setIfInBounds_toArray, List.set_cons_zero, List.set_cons_succ]
      refine takeH (i := 3) (d := 77) (v := ?vc2) rfl (by kernel_rfl) (by kernel_rfl) (by kernel_rfl) (by kernel_rfl) (fun _ _ _ h => h) (Or.inl ⟨by kernel_rfl, ?hyc2⟩) hHeld ?restc2
      case hyc2 =>
        intro w hSw
        try dsimp only at hSw
        first | (go_simp; done) | (go_simp; with_reducible rfl)
      try simp only [Act.put, List.setIfInBounds_toArray, List.set_cons_zero, List.set_cons_succ]
      refine takeH (i := 4) (d := 78) (v := ?vc3) rfl (by kernel_rfl) (by kernel_rfl) (by kernel_rfl) (by kernel_rfl) (fun _ _ _ h => h) (Or.inl ⟨by kernel_rfl, ?hyc3⟩) hHeld ?restc3
      case hyc3 =>
        intro w hSw
        try dsimp only at hSw
        first | (go_simp; done) | (go_simp; with_reducible rfl)
      try simp only [Act.put, List.setIfInBounds_toArray, List.set_cons_zero, List.set_cons_succ]
      refine takeH (i := 5) (d := 79) (v := ?vc4) rfl (by kernel_rfl) (by kernel_rfl) (by kernel_rfl) (by kernel_rfl) (fun _ _ _ h => h) (Or.inl ⟨by kernel_rfl, ?hyc4⟩) hHeld ?restc4
      case hyc4 =>
        intro w hSw
        try dsimp only at hSw
        first | (go_simp; done) | (go_simp; with_reducible rfl)
      try simp only [Act.put, List.setIfInBounds_toArray, List.set_cons_zero, List.set_cons_succ]
      refine takeH (i := 7) (d := 81) (v := ?vc5) rfl (by kernel_rfl) (by kernel_rfl) (by kernel_rfl) (by kernel_rfl) (fun _ _ _ h => h) (Or.inl ⟨by kernel_rfl, ?hyc5⟩) hHeld ?restc5
      case hyc5 =>
        intro w hSw
        try dsimp only at hSw
        first | (go_simp; done) | (go_simp; with_reducible rfl)
      try simp only [Act.put, List.setIfInBounds_toArray, List.set_cons_zero, List.set_cons_succ]
      refine takeH (i := 8) (d := 82) (v := ?vc6) rfl (by kernel_rfl) (by kernel_rfl) (by kernel_rfl) (by kernel_rfl) (fun _ _ _ h => h) (Or.inl ⟨by kernel_rfl, ?hyc6⟩) hHeld ?restc6
      case hyc6 =>
        intro w hSw
        try dsimp only at hSw
        first | (go_simp; done) | (go_simp; with_reducible rfl)
      try simp only [Act.put, List.setIfInBounds_toArray, List.set_cons_zero, List.set_cons_succ]
      refine wpAnyH_ready (rs := [6, 9]) (by kernel_rfl) (by simp) ?_
      refine AllReadyH.cons rfl (fun K hK => ?_) (AllReadyH.cons rfl (fun K hK => ?_) AllReadyH.nil)
      · have HH := Lib.hid hHeld
        clear hHeld
        go_simp
        go_at_call 47
        refine ((HX11.out.callCand (Fr.refl _ _))).mono ?_
        rintro e wc ⟨vc, rfl, HRc, HXc⟩
        refine hK.out _ _ ?_ (fun hNew => ?_)
        · exact HXc.out.cells
        clear hK K HH
        have hHeld := hNew
        clear hNew
        try simp only [Act.put, List.setIfInBounds_toArray, List.set_cons_zero, List.set_cons_succ]
        refine wpAnyH_ready (rs := [9]) (by kernel_rfl) (by simp) ?_
        refine AllReadyH.cons rfl (fun K hK => ?_) AllReadyH.nil
        have HH := Lib.hid hHeld
        clear hHeld
        go_simp
        skip
        refine hK.out _ _ ?_ (fun hNew => ?_)
        · exact (HXc.out.quiet (Fr.alloc _ _ _)).cells
        clear hK K HH
        have hHeld := hNew
        clear hNew
        try simp only [Act.put, List.setIfInBounds_toArray, List.set_cons_zero, List.set_cons_succ]
        refine wpAnyH_ready (rs := [10]) (by kernel_rfl) (by simp) ?_
        refine AllReadyH.cons rfl (fun K hK => ?_) AllReadyH.nil
        have HH := Lib.hid hHeld
        clear hHeld
        go_simp
        go_at_call 50
        refine (same_lit wc vc k4 a7 HRc.out).mono ?_
        rintro e wd ⟨rfl, hfd⟩
        have HXd := Lib.hid (HXc.out.quiet ((Fr.alloc _ _ _).wide hfd (fun _ h => h.elim)))
        refine hK.out _ _ ?_ (fun hNew => ?_)
        · exact HXd.out.cells
        clear hK K HH
        have hHeld := hNew
        clear hNew
        try simp only [Act.put, List.setIfInBounds_toArray, List.set_cons_zero, List.set_cons_succ]
        refine takeH (i := 11) (d := 85) (v := ?vc7) rfl (by kernel_rfl) (by kernel_rfl) (by kernel_rfl) (by kernel_rfl) (fun _ _ _ h => h) (Or.inl ⟨by kernel_rfl, ?hyc7⟩) hHeld ?restc7
        case hyc7 =>
          intro w hSw
          try dsimp only at hSw
          first | (go_simp; done) | (go_simp; with_reducible rfl)
        try simp only [Act.put, List.setIfInBounds_toArray, List.set_cons_zero, List.set_cons_succ]
        refine takeH (i := 12) (d := 86) (v := ?vc8) rfl (by kernel_rfl) (by kernel_rfl) (by kernel_rfl) (by kernel_rfl) (fun _ _ _ h => h) (Or.inl ⟨by kernel_rfl, ?hyc8⟩) hHeld ?restc8
        case hyc8 =>
          intro w hSw
          try dsimp only at hSw
          first | (go_simp; done) | (go_simp; with_reducible rfl)
        try simp only [Act.put, List.setIfInBounds_toArray, List.set_cons_zero, List.set_cons_succ]
        refine takeH (i := 13) (d := 87) (v := ?vc9) rfl (by kernel_rfl) (by kernel_rfl) (by kernel_rfl) (by kernel_rfl) (fun _ _ _ h => h) (Or.inl ⟨by kernel_rfl, ?hyc9⟩) hHeld ?restc9
        case hyc9 =>
          intro w hSw
          try dsimp only at hSw
          first | (go_simp; done) | (go_simp; with_reducible rfl)
        try simp only [Act.put, List.setIfInBounds_toArray, List.set_cons_zero, List.set_cons_succ]
        refine takeH (i := 14) (d := 88) (v := ?vc10) rfl (by kernel_rfl) (by kernel_rfl) (by kernel_rfl) (by kernel_rfl) (fun _ _ _ h => h) (Or.inl ⟨by kernel_rfl, ?hyc10⟩) hHeld ?restc10
        case hyc10 =>
          intro w hSw
          try dsimp only at hSw
          first | (go_simp; done) | (go_simp; with_reducible rfl)
        try simp only [Act.put, List.setIfInBounds_toArray, List.set_cons_zero, List.set_cons_succ]
        refine takeH (i := 15) (d := 89) (v := ?vc11) rfl (by kernel_rfl) (by kernel_rfl) (by kernel_rfl) (by kernel_rfl) (fun _ _ _ h => h) (Or.inl ⟨by kernel_rfl, ?hyc11⟩) hHeld ?restc11
        case hyc11 =>
          intro w hSw
          try dsimp only at hSw
          first | (go_simp; done) | (go_simp; with_reducible rfl)
        try simp only [Act.put, List.setIfInBounds_toArray, List.set_cons_zero, List.set_cons_succ]
        refine wpAnyH_ready (rs := [16]) (by kernel_rfl) (by simp) ?_
        refine AllReadyH.cons rfl (fun K hK => ?_) AllReadyH.nil
        have HH := Lib.hid hHeld
        clear hHeld
        go_simp
        go_at_call 46
        refine (HXd.out.callOffer (Fr.refl _ _) b7 (by decide) u7 (show _ = [k4, a7] by rw [t7]; rfl)).mono ?_
        rintro e w12 ⟨v12, rfl, HX12⟩
        refine hK.out _ _ ?_ (fun hNew => ?_)
        · exact HX12.out.cells
        clear hK K HH
        have hHeld := hNew
        clear hNew
        try simp only [Act.put, List.setIfInBounds_toArray, List.set_cons_zero, List.set_cons_succ]
        refine takeH (i := 17) (d := 91) (v := ?vc12) rfl (by kernel_rfl) (by kernel_rfl) (by kernel_rfl) (by kernel_rfl) (fun _ _ _ h => h) (Or.inl ⟨by kernel_rfl, ?hyc12⟩) hHeld ?restc12
        case hyc12 =>
          intro w hSw
          try dsimp only at hSw
          first | (go_simp; done) | (go_simp; with_reducible rfl)
        try simp only [Act.put, List.setIfInBounds_toArray, List.set_cons_zero, List.set_cons_succ]
        refine wpAnyH_done (by kernel_rfl) ?_ _
        go_wp2_with fail
        go_meet
        case rel => exact ⟨rfl, _, HX12⟩
      · have HH := Lib.hid hHeld
        clear hHeld
        go_simp
        skip
        refine hK.out _ _ ?_ (fun hNew => ?_)
        · exact (HX11.out.quiet (Fr.alloc _ _ _)).cells
        clear hK K HH
        have hHeld := hNew
        clear hNew
        try simp only [Act.put, List.setIfInBounds_toArray, List.set_cons_zero, List.set_cons_succ]
        refine wpAnyH_ready (rs := [6]) (by kernel_rfl) (by simp) ?_
        refine AllReadyH.cons rfl (fun K hK => ?_) AllReadyH.nil
        have HH := Lib.hid hHeld
        clear hHeld
        go_simp
        go_at_call 47
        refine ((HX11.out.callCand (Fr.alloc _ _ _))).mono ?_
        rintro e wc ⟨vc, rfl, HRc, HXc⟩
        refine hK.out _ _ ?_ (fun hNew => ?_)
        · exact HXc.out.cells
        clear hK K HH
        have hHeld := hNew
        clear hNew
        try simp only [Act.put, List.setIfInBounds_toArray, List.set_cons_zero, List.set_cons_succ]
        refine wpAnyH_ready (rs := [10]) (by kernel_rfl) (by simp) ?_
        refine AllReadyH.cons rfl (fun K hK => ?_) AllReadyH.nil
        have HH := Lib.hid hHeld
        clear hHeld
        go_simp
        go_at_call 50
        refine (same_lit2 w11 wc vc k4 a7 HRc.out).mono ?_
        rintro e wd ⟨rfl, hfd⟩
        have HXd := Lib.hid (HXc.out.quiet hfd)
        refine hK.out _ _ ?_ (fun hNew => ?_)
        · exact HXd.out.cells
        clear hK K HH
        have hHeld := hNew
        clear hNew
        try simp only [Act.put, List.setIfInBounds_toArray, List.set_cons_zero, List.set_cons_succ]
        refine takeH (i := 11) (d := 85) (v := ?vc13) rfl (by kernel_rfl) (by kernel_rfl) (by kernel_rfl) (by kernel_rfl) (fun _ _ _ h => h) (Or.inl ⟨by kernel_rfl, ?hyc13⟩) hHeld ?restc13
        case hyc13 =>
          intro w hSw
          try dsimp only at hSw
          first | (go_simp; done) | (go_simp; with_reducible rfl)
        try simp only [Act.put, List.setIfInBounds_toArray, List.set_cons_zero, List.set_cons_succ]
        refine takeH (i := 12) (d := 86) (v := ?vc14) rfl (by kernel_rfl) (by kernel_rfl) (by kernel_rfl) (by kernel_rfl) (fun _ _ _ h => h) (Or.inl ⟨by kernel_rfl, ?hyc14⟩) hHeld ?restc14
        case hyc14 =>
          intro w hSw
          try dsimp only at hSw
          first | (go_simp; done) | (go_simp; with_reducible rfl)
        try simp only [Act.put, List.setIfInBounds_toArray, List.set_cons_zero, List.set_cons_succ]
        refine takeH (i := 13) (d := 87) (v := ?vc15) rfl (by kernel_rfl) (by kernel_rfl) (by kernel_rfl) (by kernel_rfl) (fun _ _ _ h => h) (Or.inl ⟨by kernel_rfl, ?hyc15⟩) hHeld ?restc15
        case hyc15 =>
          intro w hSw
          try dsimp only at hSw
          first | (go_simp; done) | (go_simp; with_reducible rfl)
        try simp only [Act.put, List.setIfInBounds_toArray, List.set_cons_zero, List.set_cons_succ]
        refine takeH (i := 14) (d := 88) (v := ?vc16) rfl (by kernel_rfl) (by kernel_rfl) (by kernel_rfl) (by kernel_rfl) (fun _ _ _ h => h) (Or.inl ⟨by kernel_rfl, ?hyc16⟩) hHeld ?restc16
        case hyc16 =>
          intro w hSw
          try dsimp only at hSw
          first | (go_simp; done) | (go_simp; with_reducible rfl)
        try simp only [Act.put, List.setIfInBounds_toArray, List.set_cons_zero, List.set_cons_succ]
        refine takeH (i := 15) (d := 89) (v := ?vc17) rfl (by kernel_rfl) (by kernel_rfl) (by kernel_rfl) (by kernel_rfl) (fun _ _ _ h => h) (Or.inl ⟨by kernel_rfl, ?hyc17⟩) hHeld ?restc17
        case hyc17 =>
          intro w hSw
          try dsimp only at hSw
          first | (go_simp; done) | (go_simp; with_reducible rfl)
        try simp only [Act.put, List.setIfInBounds_toArray, List.set_cons_zero, List.set_cons_succ]
        refine wpAnyH_ready (rs := [16]) (by kernel_rfl) (by simp) ?_
        refine AllReadyH.cons rfl (fun K hK => ?_) AllReadyH.nil
        have HH := Lib.hid hHeld
        clear hHeld
        go_simp
        go_at_call 46
        refine (HXd.out.callOffer (Fr.refl _ _) b7 (by decide) u7 (show _ = [k4, a7] by rw [t7]; rfl)).mono ?_
        rintro e w12 ⟨v12, rfl, HX12⟩
        refine hK.out _ _ ?_ (fun hNew => ?_)
        · exact HX12.out.cells
        clear hK K HH
        have hHeld := hNew
        clear hNew
        try simp only [Act.put, List.setIfInBounds_toArray, List.set_cons_zero, List.set_cons_succ]
        refine takeH (i := 17) (d := 91) (v := ?vc18) rfl (by kernel_rfl) (by kernel_rfl) (by kernel_rfl) (by kernel_rfl) (fun _ _ _ h => h) (Or.inl ⟨by kernel_rfl, ?hyc18⟩) hHeld ?restc18
        case hyc18 =>
          intro w hSw
          try dsimp only at hSw
          first | (go_simp; done) | (go_simp; with_reducible rfl)
        try simp only [Act.put, List.setIfInBounds_toArray, List.set_cons_zero, List.set_cons_succ]
        refine wpAnyH_done (by kernel_rfl) ?_ _
        go_wp2_with fail
        go_meet
        case rel => exact ⟨rfl, _, HX12⟩
    case rest =>
    obtain ⟨rfl, v14, HX14⟩ := hcut
    clear HX10
    obtain ⟨⟨c0, c1⟩, ⟨d0, d1⟩, ⟨f0, f1⟩⟩ := HX14.out.cells
    dsimp only [a7, b7, k4] at c0 c1 d0 d1 f0 f1
    obtain ⟨w14, rfl⟩ : ∃ x, x = wc := ⟨_, rfl⟩
    go_wp2_with fail
    refine (take_any w14 _ p 2 v14 [k4, a7] HX14.out.k.a).mono ?_
    rintro e w15 ⟨v15, rfl, hp15, hv15, hf15⟩
    have HX15 := Lib.hid (HX14.out.keep (HX14.out.k.turn hp15 hf15) hf15 (fun g hg => .inl (by rw [← hv15]; exact hg)))
    clear hp15 hv15 hf15 HX14 c0 c1 d0 d1 f0 f1
    dsimp only [k4]
    go_wp2_with fail
    obtain ⟨W16, hW16⟩ : ∃ W, w15.alloc (.cells #[.string ⟨#[99]⟩, .int .u64 4] 73) = W := ⟨_, rfl⟩
    have hx1 : W16.heap[w15.heap.size]? = some (.cells #[.string ⟨#[99]⟩, .int .u64 4] 73 (0, 0)) := by rw [← hW16]; exact alloc_at _ _
    have HX16 : Hid (Kx w w1.heap.size p s a7 b7 k4 v15 [a7] W16) := by rw [← hW16]; exact HX15.out.quiet (Fr.alloc _ _ _)
    obtain ⟨n1, hn1⟩ : ∃ n, w15.heap.size = n := ⟨_, rfl⟩
    have hp1 : p ≠ n1 := by have := HX15.out.k.a.lt; omega
    have ho1 : ∀ g, v15.ownBlock = some g → g ≠ n1 := fun g hg e => by have := (own_blk HX15.out.k.a.row hg).2.1; omega
    have HO1 := Lib.hid ho1
    rw [hW16]
    rw [hn1] at hx1 ⊢
    clear hW16 hn1 ho1 HX15
    refine (take_any W16 _ p 2 v15 [a7] HX16.out.k.a).mono ?_
    rintro e w17 ⟨v17, rfl, hp17, hv17, hf17⟩
    have HX17 := Lib.hid (HX16.out.keep (HX16.out.k.turn hp17 hf17) hf17 (fun g hg => .inl (by rw [← hv17]; exact hg)))
    have hx2 := (hf17.block n1 (Array.getElem?_eq_some_iff.1 hx1).1 (fun e => e.elim (fun e => hp1 e.symm) (fun e => HO1.out n1 e rfl))).trans hx1
    have HO2 : Hid (∀ g, v17.ownBlock = some g → g ≠ n1) := fun g hg => HO1.out g (by rw [← hv17]; exact hg)
    clear hp17 hv17 hf17 HX16 hx1 HO1
    dsimp only [a7]
    go_wp2_with fail
    obtain ⟨W18, hW18⟩ : ∃ W, w17.alloc (.cells #[.string ⟨#[97]⟩, .int .u64 7] 73) = W := ⟨_, rfl⟩
    have hy1 : W18.heap[w17.heap.size]? = some (.cells #[.string ⟨#[97]⟩, .int .u64 7] 73 (0, 0)) := by rw [← hW18]; exact alloc_at _ _
    have HFA : Hid (Fr (fun _ => False) w17 W18) := by rw [← hW18]; exact Fr.alloc _ _ _
    have hx3 := (HFA.out.block n1 (Array.getElem?_eq_some_iff.1 hx2).1 (fun h => h)).trans hx2
    have HX18 := Lib.hid (HX17.out.quiet HFA.out)
    have hn12 : n1 < w17.heap.size := (Array.getElem?_eq_some_iff.1 hx2).1
    obtain ⟨n2, hn2⟩ : ∃ n, w17.heap.size = n := ⟨_, rfl⟩
    have hp2 : p ≠ n2 := by have := HX17.out.k.a.lt; omega
    have ho2 : ∀ g, v17.ownBlock = some g → g ≠ n2 := fun g hg e => by have := (own_blk HX17.out.k.a.row hg).2.1; omega
    have HO3 := Lib.hid ho2
    rw [hW18]
    rw [hn2] at hy1 hn12 ⊢
    clear hW18 hn2 ho2 HX17 hx2 HFA
    refine (take_any W18 _ p 2 v17 [] HX18.out.k.a).mono ?_
    rintro e w19 ⟨rfl, hp19, hf19⟩
    have HX19 := Lib.hid (HX18.out.keep (HX18.out.k.turn hp19 hf19) hf19 (fun g hg => .inl hg))
    have hx4 := (hf19.block n1 (Array.getElem?_eq_some_iff.1 hx3).1 (fun e => e.elim (fun e => hp1 e.symm) (fun e => HO2.out n1 e rfl))).trans hx3
    have hy2 := (hf19.block n2 (Array.getElem?_eq_some_iff.1 hy1).1 (fun e => e.elim (fun e => hp2 e.symm) (fun e => HO3.out n2 e rfl))).trans hy1
    clear hp19 hf19 HX18 hx3 hy1
    go_wp2_with fail
    obtain ⟨W20, hW20⟩ : ∃ W, w19.alloc (.cells #[.string ⟨#[]⟩, .int .u64 0] 73) = W := ⟨_, rfl⟩
    have hz1 : W20.heap[w19.heap.size]? = some (.cells #[.string ⟨#[]⟩, .int .u64 0] 73 (0, 0)) := by rw [← hW20]; exact alloc_at _ _
    have HFA : Hid (Fr (fun _ => False) w19 W20) := by rw [← hW20]; exact Fr.alloc _ _ _
    have hx5 := (HFA.out.block n1 (Array.getElem?_eq_some_iff.1 hx4).1 (fun h => h)).trans hx4
    have hy3 := (HFA.out.block n2 (Array.getElem?_eq_some_iff.1 hy2).1 (fun h => h)).trans hy2
    have HX20 := Lib.hid (HX19.out.quiet HFA.out)
    obtain ⟨n3, hn3⟩ : ∃ n, w19.heap.size = n := ⟨_, rfl⟩
    rw [hW20]
    rw [hn3] at hz1 ⊢
    clear hW20 hn3 HX19 hx4 hy2 HFA
    refine (newPool_bad W20 0 (by decide)).mono ?_
    rintro e w' ⟨rfl, rfl⟩
    go_wp2_with fail
    refine (newPool_bad W20 17 (by decide)).mono ?_
    rintro e w' ⟨rfl, rfl⟩
    obtain ⟨⟨c0, c1⟩, ⟨d0, d1⟩, ⟨f0, f1⟩⟩ := HX20.out.cells
    dsimp only [a7, b7, k4] at c0 c1 d0 d1 f0 f1
    have x0 : W20.cell? ⟨n1, 0, none⟩ = some (.string ⟨#[99]⟩) := cell_of_blk hx5 0
    have x1 : W20.cell? ⟨n1, 1, none⟩ = some (.int .u64 4) := cell_of_blk hx5 1
    have y0 : W20.cell? ⟨n2, 0, none⟩ = some (.string ⟨#[97]⟩) := cell_of_blk hy3 0
    have y1 : W20.cell? ⟨n2, 1, none⟩ = some (.int .u64 7) := cell_of_blk hy3 1
    have z0 : W20.cell? ⟨n3, 0, none⟩ = some (.string ⟨#[]⟩) := cell_of_blk hz1 0
    have z1 : W20.cell? ⟨n3, 1, none⟩ = some (.int .u64 0) := cell_of_blk hz1 1
    clear hx5 hy3 hz1
    have hs2 : s + 1 + 1 = s + 2 := rfl
    go_wp2_with fail
    refine (drop_any W20 _ p 2 v17 [] ⟨#[97]⟩ HX20.out.k.a).mono ?_
    rintro e w21 ⟨v21, rfl, hp21, hv21, hf21⟩
    have HB := Lib.hid (HX20.out.k.turn hp21 hf21).bel
    clear hp21 hv21 hf21 c0 c1 d0 d1 f0 f1 x0 x1 y0 y1 z0 z1
    go_wp2_with fail
    go_ret
    exact ⟨rfl, HB.out⟩
set_option maxRecDepth 100000 in
theorem poolKnown_lifted (os : Os) (started : os.Started) (H : Type) (enc : TypeId × Value → H) :
    ReturnsInHanded {} Try.checked os 10 .any (Rows.poolKnownSpec.pre6 enc Try.prog Try.f10 Rows.poolKnownRow.domain false) (Rows.poolKnownSpec.post enc Try.prog Try.f10 false true false false) := by
  refine returnsInHanded_of_change_sized (C := Try.checked) own started (by kernel_rfl) Try.func10
    (ChangeSpec.witness6 (enc := enc) (C := Try.checked) false ⟨#[], #[], []⟩ 8 (by kernel_rfl) (by kernel_rfl) (by kernel_rfl) (by kernel_rfl)) ?_
  intro W base args ds gs before hval0 hW hcnd hsz0 _
  have hval : ∀ (j : Nat) t v, Try.f10.params[j]? = some t → args[j]? = some v → Value.okWide Try.prog W .any base t v := hval0
  have hW' := hW
  obtain ⟨p, q, hA0, hV, rfl, hfz, hnd⟩ := hW
  have hA : DataW.TrodAll enc Try.prog W 0 (fun _ => true) true Try.f10.params.toList args.toList ds p := hA0
  rw [Try.params10] at hA hval
  obtain ⟨hargs, rfl, rfl⟩ := trodAll_nil hA
  obtain rfl : args = #[] := by cases args; simp_all
  obtain ⟨rfl, rfl⟩ := trodVars_none hV
  clear hsz0
  clear hA0 hval0
  refine (poolKnown_walk W ).mono fun e W' ⟨he, bel⟩ => ?_
  subst he
  exact ⟨_, rfl, law_post laidOut Try.underlying4 (by kernel_rfl) rfl (by kernel_rfl) hW' rfl bel⟩

theorem poolKnown_holds : Rows.PoolKnownSaid :=
  OpenClaim.holds_of_wide 10 Try.f10 rfl rfl rfl rfl rfl rfl rfl ⟨rfl, rfl, rfl, rfl, rfl⟩ rfl rfl rfl rfl rfl (by kernel_rfl) Try.func10 (by kernel_rfl)
    (of_decide_eq_true (by kernel_rfl)) (by unfold Func.isWrapper; rw [if_neg (of_decide_eq_false (by kernel_rfl))]; exact ⟨rfl, rfl⟩)
    (fun os started H enc _ => poolKnown_lifted os started H enc)
end Go.Proofs.Ytpcjogmikgfgdaa
