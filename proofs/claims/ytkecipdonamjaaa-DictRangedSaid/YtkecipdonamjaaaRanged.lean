/- DictRanged's frame: its boxes, rows and table, and what each step leaves of them. No condition. -/
import Derived.Test.YtkecipdonamjaaaDictPlaced
import Derived.Test.YtkecipdonamjaaaOnce
import Derived.Test.YtkecipdonamjaaaRound
namespace Go.Proofs.Ytkecipdonamjaaa
open Go.RowKit Go.Shelf Di
theorem fr_blw {w w' : World} (hb : Below w.heap.size w w') : Fr (fun _ => False) w w' := ⟨hb.os, hb.tape, hb.output, hb.size, fun k hk _ => hb.block k hk⟩
theorem box_dict {V : World} {b : Nat} {t : TypeId} {v : Value} {d : Nat} {M : DM} (h : Boxed V b t v) (hd : DAt V d M) (he : t ≠ 114 ∧ t ≠ 112 ∧ t ≠ 109) : ¬ Bs (dictL d M) b := by
  intro hb
  obtain ⟨x, hx, hxg⟩ := List.mem_map.1 hb
  obtain ⟨a, ty, h1, h2⟩ := dict_typed d M x hx
  have h3 := hd.rep x hx
  rw [hxg, h1, show V.heap[b]? = _ from h] at h3
  simp only [Option.some.injEq, Obj.cells.injEq] at h3
  rcases h2 with h2 | h2 | h2
  · exact he.1 (h3.2.1.trans h2)
  · exact he.2.1 (h3.2.1.trans h2)
  · exact he.2.2 (h3.2.1.trans h2)
/-- the boxes of within, the answer, d and l; the table and the row -/
structure Rg (w : World) (p : Nat) (vW vl : Value) (d : Nat) (M : DM) (L : Pl) (V : World) : Prop where
  b5 : Boxed V w.heap.size 27 vW
  b6 : Boxed V (w.heap.size + 1) 4 (.bool false)
  b7 : Boxed V p 29 (.pointer (some ⟨d, 0, none⟩))
  b8 : Boxed V (p + 1) 39 vl
  pr : Pr w.heap.size V d M vl L
  like : Like M L
  bel : Below w.heap.size w V
  lo : w.heap.size + 1 < p
/-- what is none of these -/
def Free (w : World) (p : Nat) (vl : Value) (d : Nat) (M : DM) (k : Nat) : Prop := w.heap.size + 1 < k ∧ k ≠ p ∧ k ≠ p + 1 ∧ ¬ Bs (dictL d M) k ∧ vl.ownBlock ≠ some k
section
variable {w : World} {p : Nat} {vW vl : Value} {d : Nat} {M : DM} {L : Pl} {V V' : World}
theorem Rg.fr {T : Nat → Prop} (h : Rg w p vW vl d M L V) (hf : Fr T V V') (hT : ∀ k, T k → Free w p vl d M k) : Rg w p vW vl d M L V' := by
  have lo := h.lo
  refine ⟨(hf.block _ h.b5.lt (fun e => by have := (hT _ e).1; omega)).trans h.b5, (hf.block _ h.b6.lt (fun e => by have := (hT _ e).1; omega)).trans h.b6, (hf.block _ h.b7.lt (fun e => (hT _ e).2.1 rfl)).trans h.b7,
    (hf.block _ h.b8.lt (fun e => (hT _ e).2.2.1 rfl)).trans h.b8, h.pr.other hf (fun k hk e => (hT k e).2.2.2.1 hk) (fun g hg e => (hT g e).2.2.2.2 hg), h.like, h.bel.trans (hf.below h.bel.size (fun k hk => by have := (hT k hk).1; omega)), lo⟩
theorem Rg.quiet (h : Rg w p vW vl d M L V) (hf : Fr (fun _ => False) V V') : Rg w p vW vl d M L V' := h.fr hf (fun _ h => h.elim)
/-- a step: does, and the list laid into its box -/
theorem Rg.step {V1 w4 : World} {v' : Value} {M' : DM} {L' : Pl} (h : Rg w p vW vl d M L V) (h1 : Fr (fun _ => False) V V1) (P4 : Pr w.heap.size w4 d M' v' L') (L4 : Like M' L') (fr : Fr (fun k => Bs (dictL d M) k ∨ vl.ownBlock = some k) V1 w4) :
    Rg w p vW v' d M' L' (w4.setCell ⟨p + 1, 0, none⟩ v') ∧ Fr (fun k => Bs (dictL d M) k ∨ vl.ownBlock = some k ∨ k = p + 1) V (w4.setCell ⟨p + 1, 0, none⟩ v') ∧ w4.cell? ⟨p + 1, 0, none⟩ = some vl ∧ w4.frozen? ⟨p + 1, 0, none⟩ = false := by
  have lo := h.lo
  have hq := h.quiet h1
  have keep : ∀ {b : Nat} {t : TypeId} {v : Value}, Boxed V1 b t v → (t ≠ 114 ∧ t ≠ 112 ∧ t ≠ 109) → t ≠ 54 → Boxed w4 b t v := fun hb ht he =>
    (fr.block _ hb.lt (fun e => e.elim (box_dict hb hq.pr.dat ht) (fun e => hb.not_row he hq.pr.row e.symm))).trans hb
  have c5 := keep hq.b5 (by decide) (by decide)
  have c6 := keep hq.b6 (by decide) (by decide)
  have c7 := keep hq.b7 (by decide) (by decide)
  have c8 := keep hq.b8 (by decide) (by decide)
  have hs := Fr.setCell w4 ⟨p + 1, 0, none⟩ v'
  have n8 := box_dict c8 P4.dat (by decide)
  have m8 := c8.not_row (by decide) P4.row
  refine ⟨⟨(hs.block _ c5.lt (by dsimp only; omega)).trans c5, (hs.block _ c6.lt (by dsimp only; omega)).trans c6, (hs.block _ c7.lt (by dsimp only; omega)).trans c7, c8.set v',
    P4.other hs (fun k hk e => n8 (by rw [← show k = p + 1 from e]; exact hk)) (fun g hg e => m8 (by rw [← show g = p + 1 from e]; exact hg.symm)), L4, ?_, lo⟩, ?_, c8.cell, c8.frozen⟩
  · have hb4 : Below w.heap.size w w4 := hq.bel.trans (fr.below hq.bel.size (fun k hk => hk.elim (fun e => hq.pr.base k e) (fun e => (hq.pr.row.lt k e).1)))
    exact hb4.setCell (p := ⟨p + 1, 0, none⟩) (by dsimp only; omega) _
  · exact ((h1.mono (T := fun k => Bs (dictL d M) k ∨ vl.ownBlock = some k ∨ k = p + 1) (fun _ h => h.elim)).wide fr (fun i hi => .inl (hi.elim .inl (fun e => .inr (.inl e))))).wide hs (fun i hi => .inl (.inr (.inr hi)))
end
/-- beside: what was, the iterator's box, what was seen -/
structure Rz (w : World) (p q b s : Nat) (vW vl v13 vs : Value) (d : Nat) (M : DM) (L L0 S : Pl) (V : World) : Prop extends Rg w p vW vl d M L V where
  b13 : Boxed V q 39 v13
  r13 : V.ownsRow w.heap.size 54 2 v13 L0.length (L0.flatMap enCells)
  bE : Boxed V b 29 (.pointer (some ⟨d, 0, none⟩))
  b15 : Boxed V s 39 vs
  r15 : V.ownsRow w.heap.size 54 2 vs S.length (S.flatMap enCells)
  ap1 : ∀ g, vl.ownBlock = some g → v13.ownBlock ≠ some g ∧ vs.ownBlock ≠ some g
  ap2 : ∀ g, v13.ownBlock = some g → vs.ownBlock ≠ some g
  n1 : p + 1 < q
  n2 : q < b
  n3 : b < s
def Free2 (w : World) (p q b s : Nat) (vl v13 vs : Value) (d : Nat) (M : DM) (k : Nat) : Prop := Free w p vl d M k ∧ k ≠ q ∧ k ≠ b ∧ k ≠ s ∧ v13.ownBlock ≠ some k ∧ vs.ownBlock ≠ some k
section
variable {w : World} {p q b s : Nat} {vW vl v13 vs : Value} {d : Nat} {M : DM} {L L0 S : Pl} {V V' : World}
theorem Rz.fr {T : Nat → Prop} (h : Rz w p q b s vW vl v13 vs d M L L0 S V) (hf : Fr T V V') (hT : ∀ k, T k → Free2 w p q b s vl v13 vs d M k) : Rz w p q b s vW vl v13 vs d M L L0 S V' :=
  ⟨h.toRg.fr hf (fun k hk => (hT k hk).1), (hf.block _ h.b13.lt (fun e => (hT _ e).2.1 rfl)).trans h.b13, owns_fr h.r13 hf (fun g hg e => (hT g e).2.2.2.2.1 hg), (hf.block _ h.bE.lt (fun e => (hT _ e).2.2.1 rfl)).trans h.bE,
    (hf.block _ h.b15.lt (fun e => (hT _ e).2.2.2.1 rfl)).trans h.b15, owns_fr h.r15 hf (fun g hg e => (hT g e).2.2.2.2.2 hg), h.ap1, h.ap2, h.n1, h.n2, h.n3⟩
theorem Rz.quiet (h : Rz w p q b s vW vl v13 vs d M L L0 S V) (hf : Fr (fun _ => False) V V') : Rz w p q b s vW vl v13 vs d M L L0 S V' := h.fr hf (fun _ h => h.elim)
/-- a block that is no cells is turned -/
theorem Rz.turn (h : Rz w p q b s vW vl v13 vs d M L L0 S V) {row : Option Nat} (hg : V.grownBy V' row) (hr : ∀ r, row = some r → w.heap.size + 1 < r ∧ ∃ o : Obj, V.heap[r]? = some o ∧ o.isCells = false) : Rz w p q b s vW vl v13 vs d M L L0 S V' := by
  refine h.fr (Fr.of_grownBy hg) (fun k hk => ?_)
  obtain ⟨hlt, o, ho, hc⟩ := hr k hk
  have hne : ∀ cs t m, V.heap[k]? = some (.cells cs t m) → False := by
    intro cs t m e
    rw [ho] at e
    cases e
    cases hc
  have hbx : ∀ {b : Nat} {t : TypeId} {v : Value}, Boxed V b t v → k ≠ b := fun hb e => hne _ _ _ (by rw [e]; exact hb)
  have hrw : ∀ {e : TypeId} {size : Nat} {v : Value} {n : Nat} {xs : List Value}, V.ownsRow w.heap.size e size v n xs → v.ownBlock ≠ some k := fun hrow e => by
    obtain ⟨_, _, cs, hb⟩ := own_blk hrow e
    exact hne _ _ _ hb
  refine ⟨⟨hlt, hbx h.b7, hbx h.b8, fun hb => ?_, hrw h.pr.row⟩, hbx h.b13, hbx h.bE, hbx h.b15, hrw h.r13, hrw h.r15⟩
  obtain ⟨x, hx, hxg⟩ := List.mem_map.1 hb
  obtain ⟨a, ty, h1, _⟩ := dict_typed d M x hx
  have h3 := h.pr.dat.rep x hx
  rw [hxg, h1] at h3
  exact hne _ _ _ h3
theorem Rz.step {V1 w4 : World} {v' : Value} {M' : DM} {L' : Pl} (h : Rz w p q b s vW vl v13 vs d M L L0 S V) (h1 : Fr (fun _ => False) V V1) (P4 : Pr w.heap.size w4 d M' v' L') (L4 : Like M' L') (fr : Fr (fun k => Bs (dictL d M) k ∨ vl.ownBlock = some k) V1 w4)
    (hap : ∀ g, v'.ownBlock = some g → vl.ownBlock = some g ∨ V1.heap.size ≤ g) :
    Rz w p q b s vW v' v13 vs d M' L' L0 S (w4.setCell ⟨p + 1, 0, none⟩ v') ∧ Fr (fun k => Bs (dictL d M) k ∨ vl.ownBlock = some k ∨ k = p + 1) V (w4.setCell ⟨p + 1, 0, none⟩ v') ∧ w4.cell? ⟨p + 1, 0, none⟩ = some vl ∧ w4.frozen? ⟨p + 1, 0, none⟩ = false := by
  obtain ⟨r1, r2, r3, r4⟩ := h.toRg.step h1 P4 L4 fr
  have n1 := h.n1
  have n2 := h.n2
  have n3 := h.n3
  have keep : ∀ {b : Nat} {t : TypeId} {v : Value}, Boxed V b t v → (t ≠ 114 ∧ t ≠ 112 ∧ t ≠ 109) → t ≠ 54 → b ≠ p + 1 → Boxed (w4.setCell ⟨p + 1, 0, none⟩ v') b t v := fun hb ht he hne =>
    (r2.block _ hb.lt (fun e => e.elim (box_dict hb h.pr.dat ht) (fun e => e.elim (fun e => hb.not_row he h.pr.row e.symm) hne))).trans hb
  have rows : ∀ {v : Value} {n : Nat} {xs : List Value}, V.ownsRow w.heap.size 54 2 v n xs → (∀ g, vl.ownBlock = some g → v.ownBlock ≠ some g) → (w4.setCell ⟨p + 1, 0, none⟩ v').ownsRow w.heap.size 54 2 v n xs := fun hrow hne =>
    owns_fr hrow r2 (fun g hg e => e.elim (row_apart h.pr.dat hrow (by decide) g hg) (fun e => e.elim (fun e => hne g e hg) (fun e => h.b8.not_row (by decide) hrow (by rw [← e]; exact hg.symm))))
  refine ⟨⟨r1, keep h.b13 (by decide) (by decide) (by omega), rows h.r13 (fun g hg => (h.ap1 g hg).1), keep h.bE (by decide) (by decide) (by omega), keep h.b15 (by decide) (by decide) (by omega), rows h.r15 (fun g hg => (h.ap1 g hg).2), fun g hg => ?_, h.ap2, n1, n2, n3⟩, r2, r3, r4⟩
  rcases hap g hg with e | e
  · exact h.ap1 g e
  · have hs := h1.size
    exact ⟨fun e2 => by have := (own_blk h.r13 e2).2.1; omega, fun e2 => by have := (own_blk h.r15 e2).2.1; omega⟩
/-- one more seen -/
theorem Rz.app {A1 w' : World} {v' : Value} {e0 : En} (h : Rz w p q b s vW vl v13 vs d M L L0 S V) (hA : Fr (fun _ => False) V A1)
    (hr : w'.ownsRow w.heap.size 54 2 v' (S.length + 1) (S.flatMap enCells ++ enCells e0)) (hg : A1.grownBy w' vs.ownBlock) (ho : v'.ownBlock = vs.ownBlock ∨ v'.ownBlock = some A1.heap.size) :
    Rz w p q b s vW vl v13 v' d M L L0 (S ++ [e0]) (w'.setCell ⟨s, 0, none⟩ v') ∧ Fr (fun k => k = s ∨ vs.ownBlock = some k) V (w'.setCell ⟨s, 0, none⟩ v') ∧ w'.cell? ⟨s, 0, none⟩ = some vs ∧ w'.frozen? ⟨s, 0, none⟩ = false ∧ w'.cell? ⟨q, 0, none⟩ = some v13 := by
  have n1 := h.n1
  have n2 := h.n2
  have n3 := h.n3
  have lo := h.lo
  have hgf := Fr.of_grownBy hg
  have hset := Fr.setCell w' ⟨s, 0, none⟩ v'
  have h1 := h.quiet hA
  have k15 := h1.b15.kept hg (h1.b15.not_row (by decide) h1.r15)
  have k13 := h1.b13.kept hg (h1.b13.not_row (by decide) h1.r15)
  have hF : Fr (fun k => k = s ∨ vs.ownBlock = some k) V (w'.setCell ⟨s, 0, none⟩ v') := ((hA.mono (T := fun k => k = s ∨ vs.ownBlock = some k) (fun _ h => h.elim)).wide hgf (fun i hi => .inl (.inr hi))).wide hset (fun i hi => .inl (.inl hi))
  have hfree : ∀ k, k = s ∨ vs.ownBlock = some k → Free w p vl d M k := by
    rintro k (rfl | hk)
    · exact ⟨by omega, by omega, by omega, box_dict h.b15 h.pr.dat (by decide), fun e => h.b15.not_row (by decide) h.pr.row e.symm⟩
    · have hb := own_blk h.r15 hk
      refine ⟨?_, fun e => h.b7.not_row (by decide) h.r15 (by rw [← e]; exact hk.symm), fun e => h.b8.not_row (by decide) h.r15 (by rw [← e]; exact hk.symm), row_apart h.pr.dat h.r15 (by decide) k hk, fun e => (h.ap1 k e).2 hk⟩
      have m5 := h.b5.not_row (by decide) h.r15
      have m6 := h.b6.not_row (by decide) h.r15
      rw [hk] at m5 m6
      have : k ≠ w.heap.size := fun e => m5 (by rw [e])
      have : k ≠ w.heap.size + 1 := fun e => m6 (by rw [e])
      omega
  refine ⟨⟨h.toRg.fr hF hfree, (hF.block _ h.b13.lt (fun e => e.elim (by omega) (fun e => h.b13.not_row (by decide) h.r15 e.symm))).trans h.b13, owns_fr h.r13 hF (fun g hg e => e.elim (fun e => h.b15.not_row (by decide) h.r13 (by rw [← e]; exact hg.symm)) (h.ap2 g hg)),
    (hF.block _ h.bE.lt (fun e => e.elim (by omega) (fun e => h.bE.not_row (by decide) h.r15 e.symm))).trans h.bE, k15.set v', ?_, fun g hg => ⟨(h.ap1 g hg).1, ?_⟩, fun g hg => ?_, n1, n2, n3⟩, hF, k15.cell, k15.frozen, k13.cell⟩
  · rw [List.length_append, List.flatMap_append, List.flatMap_singleton]
    exact own_same hr fun g hgv => hset.block g (own_blk hr hgv).2.1 (fun e => k15.not_row (by decide) hr (by rw [← show g = s from e]; exact hgv.symm))
  · rcases ho with ho | ho
    · rw [ho]; exact (h.ap1 g hg).2
    · rw [ho]; intro e; cases e; have := (own_blk h1.pr.row hg).2.1; omega
  · rcases ho with ho | ho
    · rw [ho]; exact h.ap2 g hg
    · rw [ho]; intro e; cases e; have := (own_blk h1.r13 hg).2.1; omega
end
section
variable {w : World} {p q b s : Nat} {vW vl v13 vs : Value} {d : Nat} {M : DM} {L L0 S : Pl} {V V' : World}
theorem keeps_of {T : Nat → Prop} (hf : Fr T V V') (hT : ∀ k, T k → ∃ cs t, V.heap[k]? = some (.cells cs t (0, 0)) ∧ t ≠ 9 ∧ t ≠ 3 ∧ t ≠ 47 ∧ t ≠ 25) (n0 : Nat) : KeepsOthers V V' ∧ EachK n0 V V' := by
  have ho : KeepsOthers V V' := by
    refine ⟨hf.size, fun k o hk hc => (hf.block k (Array.getElem?_eq_some_iff.1 hk).1 (fun hw => ?_)).trans hk⟩
    obtain ⟨cs, t, hb, _⟩ := hT k hw
    rw [hk] at hb
    cases hb
    cases hc
  refine ⟨ho, Keep.of_fr hf fun k cs t m hs hk hw => ?_, Late.of_others _ ho⟩
  obtain ⟨cs', t', hb, h1, h2, h3, h4⟩ := hT k hw
  rw [hk] at hb
  simp only [Option.some.injEq, Obj.cells.injEq] at hb
  rcases hs.2 with e | e | e | e <;> rw [hb.2.1] at e
  · exact h1 e
  · exact h2 e
  · exact h3 e
  · exact h4 e
theorem Rz.keepL (h : Rz w p q b s vW vl v13 vs d M L L0 S V) (n0 : Nat) (hf : Fr (fun k => Bs (dictL d M) k ∨ vl.ownBlock = some k ∨ k = p + 1) V V') : KeepsOthers V V' ∧ EachK n0 V V' := by
  refine keeps_of hf (fun k hk => ?_) n0
  rcases hk with hk | hk | rfl
  · obtain ⟨x, hx, hxg⟩ := List.mem_map.1 hk
    obtain ⟨a, ty, h1, h2⟩ := dict_typed d M x hx
    have h3 := h.pr.dat.rep x hx
    rw [hxg, h1] at h3
    refine ⟨a, ty, h3, ?_⟩
    rcases h2 with rfl | rfl | rfl <;> decide
  · obtain ⟨_, _, cs, hb⟩ := own_blk h.pr.row hk
    exact ⟨cs, _, hb, by decide⟩
  · exact ⟨_, _, h.b8, by decide⟩
theorem Rz.keepS (h : Rz w p q b s vW vl v13 vs d M L L0 S V) (n0 : Nat) (hf : Fr (fun k => k = s ∨ vs.ownBlock = some k) V V') : KeepsOthers V V' ∧ EachK n0 V V' := by
  refine keeps_of hf (fun k hk => ?_) n0
  rcases hk with rfl | hk
  · exact ⟨_, _, h.b15, by decide⟩
  · obtain ⟨_, _, cs, hb⟩ := own_blk h.r15 hk
    exact ⟨cs, _, hb, by decide⟩
end
theorem was_facts {wo w5 : World} {cs : Array Value} {K : Nat} (hgrow : ((wo.alloc (.cells cs 54)).alloc (.cells #[.slice (some ⟨wo.heap.size, 0, none⟩) 0 K] 39)).grownBy w5 (some wo.heap.size)) :
    Fr (fun _ => False) wo w5 ∧ Boxed w5 (wo.heap.size + 1) 39 (.slice (some ⟨wo.heap.size, 0, none⟩) 0 K) := by
  refine ⟨((Fr.alloc (fun _ => False) wo _).thenAlloc _).wide (Fr.of_grownBy hgrow) (fun i hi => .inr (by cases hi; exact Nat.le_refl _)), ?_⟩
  have h := Boxed.new (wo.alloc (.cells cs 54)) 39 (.slice (some ⟨wo.heap.size, 0, none⟩) 0 K)
  rw [World.size_alloc] at h
  exact h.kept hgrow (fun e => by have := Option.some.inj e; omega)
end Go.Proofs.Ytkecipdonamjaaa
