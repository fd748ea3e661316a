/- Rows of flocks. No condition. -/
import Derived.Test.YtgomilodeaafdaaBi
import Derived.Test.YtgomilodeaafdaaBa
namespace Go.Proofs.Ytgomilodeaafdaa
open Go.ChangeShapes Go.WideShapes Go.ChangeAt Go.RowKit Du
/-- one of several flocks -/
structure Fk where
  r : Nat
  d : Nat
  F : Nat → Prop
  M : DM
  A : List Me
def oPtr : Option Fk → Value
  | some f => .pointer (some ⟨f.r, 0, none⟩)
  | none => .pointer none
def oMem : Option Fk → List ByteArray
  | some f => sortS (ks f.A)
  | none => []
structure Fls (K : Nat) (w0 w : World) (v : Value) (fs : List (Option Fk)) (side : List (Value × List ByteArray)) : Prop where
  row : w.ownsRow w0.heap.size 67 1 v fs.length (fs.map oPtr)
  bel : Below w0.heap.size w0 w
  one : ∀ (i : Nat) (f : Fk), fs[i]? = some (some f) → Fc K w0 w f.F f.r f.d f.M f.A ∧ Aw f.F v
  dis : ∀ (i j : Nat) (f g : Fk), i ≠ j → fs[i]? = some (some f) → fs[j]? = some (some g) → ∀ k, f.F k → ¬ g.F k
  side : ∀ p ∈ side, RowS w0.heap.size w p.1 p.2 ∧ ∀ (i : Nat) (f : Fk), fs[i]? = some (some f) → Aw f.F p.1
section
variable {K : Nat} {w0 w w' : World} {v v' : Value} {fs : List (Option Fk)} {side : List (Value × List ByteArray)}
theorem fls_start (hb : Below w0.heap.size w0 w) : Fls K w0 w (.slice none 0 0) [] [] :=
  ⟨World.ownsRow_nil _ _ _ _, hb, fun i f h => by simp at h, fun i j f g _ h => by simp at h, fun p hp => by cases hp⟩
theorem Fls.quiet (h : Fls K w0 w v fs side) (hf : Fr (fun _ => False) w w') : Fls K w0 w' v fs side :=
  ⟨ow_fr h.row hf (fun _ _ h => h), h.bel.trans (hf.below h.bel.size (fun _ h => h.elim)), fun i f hi => ⟨(h.one i f hi).1.quiet hf, (h.one i f hi).2⟩, h.dis, fun p hp => ⟨ow_fr (h.side p hp).1 hf (fun _ _ h => h), (h.side p hp).2⟩⟩
/-- a row of texts, new -/
theorem Fls.fresh (h : Fls K w0 w v fs side) (hf : Fr (fun _ => False) w w') {x : Value} {X : List ByteArray} (hr : RowS w.heap.size w' x X) : Fls K w0 w' v fs ((x, X) :: side) := by
  have h1 := h.quiet hf
  refine ⟨h1.row, h1.bel, h1.one, h1.dis, fun p hp => ?_⟩
  rcases List.mem_cons.1 hp with rfl | hp
  · exact ⟨ow_base hr h.bel.size, fun i f hi => (h.one i f hi).1.away hr⟩
  · exact h1.side p hp
/-- no text yet -/
theorem Fls.none (h : Fls K w0 w v fs side) : Fls K w0 w v fs ((.slice none 0 0, []) :: side) := by
  refine ⟨h.row, h.bel, h.one, h.dis, fun p hp => ?_⟩
  rcases List.mem_cons.1 hp with rfl | hp
  · exact ⟨World.ownsRow_nil _ _ _ _, fun i f _ g hg => by cases hg⟩
  · exact h.side p hp
theorem row_block {w : World} {B : Nat} {v : Value} {l : List ByteArray} {g : Nat} (h : RowS B w v l) (hg : v.ownBlock = some g) : BT 9 w g ∧ g < w.heap.size ∧ B ≤ g := ⟨(own_blk h hg).2.2, (own_blk h hg).2.1, (own_blk h hg).1⟩
/-- the one row of texts grows -/
theorem Fls.told {x x' : Value} {X X' : List ByteArray} (h : Fls K w0 w v fs [(x, X)]) (hr : RowS w0.heap.size w' x' X') (hg : w.grownBy w' x.ownBlock) (ha : ∀ g, x'.ownBlock = some g → x.ownBlock = some g ∨ w.heap.size ≤ g) : Fls K w0 w' v fs [(x', X')] := by
  obtain ⟨hx, hxa⟩ := h.side (x, X) (List.mem_singleton.2 rfl)
  dsimp only at hx hxa
  have hf := Fr.of_grownBy hg
  have hB : ∀ k, x.ownBlock = some k → w0.heap.size ≤ k := fun k hk => (own_blk hx hk).1
  refine ⟨ow_fr h.row hf (fun g h1 h2 => ?_), h.bel.trans (hf.below h.bel.size hB), fun i f hi => ⟨(h.one i f hi).1.other hf (fun k hk e => hxa i f hi k e hk) hB, (h.one i f hi).2⟩, h.dis, fun p hp => ?_⟩
  · exact BT.ne (own_blk h.row h1).2.2 (own_blk hx h2).2.2 (by decide) rfl
  · rw [List.mem_singleton.1 hp]
    refine ⟨hr, fun i f hi g hgv hF => ?_⟩
    rcases ha g hgv with h2 | h2
    · exact hxa i f hi g h2 hF
    · have := ((h.one i f hi).1.ff.lt g hF).2
      omega
/-- one more flock in the row; it is made in new memory -/
theorem Fls.app {wo : World} (h : Fls K w0 wo v fs side) (hq : Fr (fun _ => False) wo w) {o : Option Fk} (ho : ∀ f, o = some f → Fc K wo w f.F f.r f.d f.M f.A)
    (hr : w'.ownsRow w0.heap.size 67 1 v' (fs.length + 1) (fs.map oPtr ++ [oPtr o])) (hg : w.grownBy w' v.ownBlock) (ha : ∀ g, v'.ownBlock = some g → v.ownBlock = some g ∨ w.heap.size ≤ g) : Fls K w0 w' v' (fs ++ [o]) side := by
  have h1 := h.quiet hq
  have hf := Fr.of_grownBy hg
  have hB : ∀ k, v.ownBlock = some k → w0.heap.size ≤ k := fun k hk => (own_blk h.row hk).1
  have hlt : ∀ k, v.ownBlock = some k → k < wo.heap.size := fun k hk => (own_blk h.row hk).2.1
  have hone : ∀ (i : Nat) (f : Fk), (fs ++ [o])[i]? = some (some f) → fs[i]? = some (some f) ∨ i = fs.length ∧ o = some f := fun i f hi => by
    rw [List.getElem?_append] at hi
    split at hi
    · exact .inl hi
    · next hge =>
      have hi2 := (List.getElem?_eq_some_iff.1 hi).1
      simp only [List.length_singleton] at hi2
      have e : i = fs.length := by omega
      subst e
      simp at hi
      exact .inr ⟨rfl, hi⟩
  have haw : ∀ F : Nat → Prop, Aw F v → (∀ k, F k → k < w.heap.size) → Aw F v' := fun F h2 h3 g hgv hF => by
    rcases ha g hgv with h4 | h4
    · exact h2 g h4 hF
    · have := h3 g hF
      omega
  refine ⟨by rw [List.length_append, List.map_append]; exact hr, h1.bel.trans (hf.below h1.bel.size hB), fun i f hi => ?_, fun i j f g hij hi hj k hk hk2 => ?_, fun p hp => ?_⟩
  · rcases hone i f hi with h2 | ⟨-, h2⟩
    · obtain ⟨h3, h4⟩ := h1.one i f h2
      exact ⟨h3.other hf (fun k hk e => h4 k e hk) hB, haw f.F h4 (fun k hk => (h3.ff.lt k hk).2)⟩
    · have h3 := ho f h2
      have h4 : Aw f.F v := fun g hgv hF => by
        have := hlt g hgv
        have := (h3.ff.lt g hF).1
        omega
      exact ⟨(h3.base h.bel).other hf (fun k hk e => h4 k e hk) hB, haw f.F h4 (fun k hk => (h3.ff.lt k hk).2)⟩
  · rcases hone i f hi with h2 | ⟨e1, h2⟩
    · rcases hone j g hj with h3 | ⟨e2, h3⟩
      · exact h.dis i j f g hij h2 h3 k hk hk2
      · have := ((h.one i f h2).1.ff.lt k hk).2
        have := ((ho g h3).ff.lt k hk2).1
        omega
    · rcases hone j g hj with h3 | ⟨e2, h3⟩
      · have := ((h.one j g h3).1.ff.lt k hk2).2
        have := ((ho f h2).ff.lt k hk).1
        omega
      · omega
  · obtain ⟨h2, h3⟩ := h.side p hp
    refine ⟨ow_fr (ow_fr h2 hq (fun _ _ h => h)) hf (fun g h4 h5 => ?_), fun i f hi => ?_⟩
    · exact BT.ne (own_blk h.row h5).2.2 (own_blk h2 h4).2.2 (by decide) rfl
    · rcases hone i f hi with h4 | ⟨-, h4⟩
      · exact h3 i f h4
      · intro g hgv hF
        have := (own_blk h2 hgv).2.1
        have := ((ho f h4).ff.lt g hF).1
        omega
/-- a flock that stands apart from a row of flocks and from rows of texts -/
structure Apart (K : Nat) (w0 w : World) (v : Value) (fs : List (Option Fk)) (side : List (Value × List ByteArray)) (g : Fk) : Prop where
  fc : Fc K w0 w g.F g.r g.d g.M g.A
  dis : ∀ (i : Nat) (f : Fk), fs[i]? = some (some f) → ∀ k, f.F k → ¬ g.F k
  aw : Aw g.F v
  side : ∀ p ∈ side, Aw g.F p.1
theorem Fls.step {wo w5 : World} {x x' : Value} {X X' : List ByteArray} (h : Fls K w0 wo v fs [(x, X)]) (g : Fk) (hc : Fc K wo w g.F g.r g.d g.M g.A) (hr : RowS w0.heap.size w5 x' X') (hg : w.grownBy w5 x.ownBlock) (ha : ∀ b, x'.ownBlock = some b → x.ownBlock = some b ∨ w.heap.size ≤ b) :
    Fls K w0 w5 v fs [(x', X')] ∧ Apart K w0 w5 v fs [(x', X')] g := by
  obtain ⟨hx, hxa⟩ := h.side (x, X) (List.mem_singleton.2 rfl)
  dsimp only at hx hxa
  have hxg : Aw g.F x := fun b hb hF => by
    have := (own_blk hx hb).2.1
    have := (hc.ff.lt b hF).1
    omega
  refine ⟨(h.quiet (fr_bel hc.bel)).told hr hg ha, (hc.base h.bel).other (Fr.of_grownBy hg) (fun k hk e => hxg k e hk) (fun k e => (own_blk hx e).1), fun i f hi k hk hk2 => ?_, fun b hb hF => ?_, fun p hp b hb hF => ?_⟩
  · have := ((h.one i f hi).1.ff.lt k hk).2
    have := (hc.ff.lt k hk2).1
    omega
  · have := (own_blk h.row hb).2.1
    have := (hc.ff.lt b hF).1
    omega
  · rw [List.mem_singleton.1 hp] at hb
    rcases ha b hb with h2 | h2
    · exact hxg b h2 hF
    · have := (hc.ff.lt b hF).2
      omega
theorem Apart.quiet {g : Fk} (h : Apart K w0 w v fs side g) (hf : Fr (fun _ => False) w w') : Apart K w0 w' v fs side g := ⟨h.fc.quiet hf, h.dis, h.aw, h.side⟩
theorem Fls.app2 {g : Fk} (h : Fls K w0 w v fs side) (ho : Apart K w0 w v fs side g)
    (hr : w'.ownsRow w0.heap.size 67 1 v' (fs.length + 1) (fs.map oPtr ++ [oPtr (some g)])) (hg : w.grownBy w' v.ownBlock) (ha : ∀ g, v'.ownBlock = some g → v.ownBlock = some g ∨ w.heap.size ≤ g) : Fls K w0 w' v' (fs ++ [some g]) side := by
  have hf := Fr.of_grownBy hg
  have hB : ∀ k, v.ownBlock = some k → w0.heap.size ≤ k := fun k hk => (own_blk h.row hk).1
  have hone : ∀ (i : Nat) (f : Fk), (fs ++ [some g])[i]? = some (some f) → fs[i]? = some (some f) ∨ i = fs.length ∧ g = f := fun i f hi => by
    rw [List.getElem?_append] at hi
    split at hi
    · exact .inl hi
    · next hge =>
      have hi2 := (List.getElem?_eq_some_iff.1 hi).1
      simp only [List.length_singleton] at hi2
      have e : i = fs.length := by omega
      subst e
      simp at hi
      exact .inr ⟨rfl, hi⟩
  have haw : ∀ F : Nat → Prop, Aw F v → (∀ k, F k → k < w.heap.size) → Aw F v' := fun F h2 h3 g hgv hF => by
    rcases ha g hgv with h4 | h4
    · exact h2 g h4 hF
    · have := h3 g hF
      omega
  refine ⟨by rw [List.length_append, List.map_append]; exact hr, h.bel.trans (hf.below h.bel.size hB), fun i f hi => ?_, fun i j f g' hij hi hj k hk hk2 => ?_, fun p hp => ?_⟩
  · rcases hone i f hi with h2 | ⟨-, rfl⟩
    · obtain ⟨h3, h4⟩ := h.one i f h2
      exact ⟨h3.other hf (fun k hk e => h4 k e hk) hB, haw f.F h4 (fun k hk => (h3.ff.lt k hk).2)⟩
    · exact ⟨ho.fc.other hf (fun k hk e => ho.aw k e hk) hB, haw g.F ho.aw (fun k hk => (ho.fc.ff.lt k hk).2)⟩
  · rcases hone i f hi with h2 | ⟨e1, rfl⟩
    · rcases hone j g' hj with h3 | ⟨e2, rfl⟩
      · exact h.dis i j f g' hij h2 h3 k hk hk2
      · exact ho.dis i f h2 k hk hk2
    · rcases hone j g' hj with h3 | ⟨e2, rfl⟩
      · exact ho.dis j g' h3 k hk2 hk
      · omega
  · obtain ⟨h2, h3⟩ := h.side p hp
    refine ⟨ow_fr h2 hf (fun g h4 h5 => ?_), fun i f hi => ?_⟩
    · exact BT.ne (own_blk h.row h5).2.2 (own_blk h2 h4).2.2 (by decide) rfl
    · rcases hone i f hi with h4 | ⟨-, rfl⟩
      · exact h3 i f h4
      · exact ho.side p hp
/-- a call that turns one of them -/
theorem Fls.turn (h : Fls K w0 w v fs side) {i : Nat} {f : Fk} (hi : fs[i]? = some (some f)) {M' : DM} {A' : List Me} (hc : Fc K w0 w' (Grew f.F w w') f.r f.d M' A') (hfr : Fr f.F w w') :
    Fls K w0 w' v (fs.set i (some ⟨f.r, f.d, Grew f.F w w', M', A'⟩)) side := by
  obtain ⟨hf1, hf2⟩ := h.one i f hi
  have hil := (List.getElem?_eq_some_iff.1 hi).1
  have hB : ∀ k, f.F k → w0.heap.size ≤ k := fun k hk => (hf1.ff.lt k hk).1
  have hget : ∀ (j : Nat) (g : Fk), (fs.set i (some ⟨f.r, f.d, Grew f.F w w', M', A'⟩))[j]? = some (some g) → j = i ∧ g = ⟨f.r, f.d, Grew f.F w w', M', A'⟩ ∨ j ≠ i ∧ fs[j]? = some (some g) := fun j g hj => by
    by_cases e : i = j
    · subst e
      rw [List.getElem?_set_self hil] at hj
      exact .inl ⟨rfl, (Option.some.inj (Option.some.inj hj)).symm⟩
    · rw [List.getElem?_set_ne e] at hj
      exact .inr ⟨fun e2 => e e2.symm, hj⟩
  have hmap : (fs.set i (some ⟨f.r, f.d, Grew f.F w w', M', A'⟩)).map oPtr = fs.map oPtr := by
    rw [List.map_set]
    refine List.ext_getElem? fun j => ?_
    rw [List.getElem?_set]
    split
    · next e =>
      subst e
      rw [List.length_map, if_pos hil, List.getElem?_map, hi]
      rfl
    · rfl
  refine ⟨by rw [List.length_set, hmap]; exact ow_fr h.row hfr (fun g hg => hf2 g hg), h.bel.trans (hfr.below h.bel.size hB), fun j g hj => ?_, fun j j' g g' hjj hj hj' k hk hk2 => ?_, fun p hp => ?_⟩
  · rcases hget j g hj with ⟨rfl, rfl⟩ | ⟨hne, h2⟩
    · exact ⟨hc, hf2.own h.row⟩
    · obtain ⟨h3, h4⟩ := h.one j g h2
      exact ⟨h3.other hfr (fun k hk hk2 => h.dis j i g f hne h2 hi k hk hk2) hB, h4⟩
  · rcases hget j g hj with ⟨rfl, rfl⟩ | ⟨hne, h2⟩
    · rcases hget j' g' hj' with ⟨rfl, rfl⟩ | ⟨hne', h2'⟩
      · exact hjj rfl
      · rcases hk with hk | hk
        · exact h.dis j j' f g' hjj hi h2' k hk hk2
        · have := ((h.one j' g' h2').1.ff.lt k hk2).2
          omega
    · rcases hget j' g' hj' with ⟨rfl, rfl⟩ | ⟨hne', h2'⟩
      · rcases hk2 with hk2 | hk2
        · exact h.dis j j' g f hjj h2 hi k hk hk2
        · have := ((h.one j g h2).1.ff.lt k hk).2
          omega
      · exact h.dis j j' g g' hjj h2 h2' k hk hk2
  · obtain ⟨h2, h3⟩ := h.side p hp
    refine ⟨ow_fr h2 hfr (fun g hg => h3 i f hi g hg), fun j g hj => ?_⟩
    rcases hget j g hj with ⟨rfl, rfl⟩ | ⟨hne, h4⟩
    · exact (h3 j f hi).own h2
    · exact h3 j g h4
theorem oMem_set {i : Nat} {f : Fk} (hi : fs[i]? = some (some f)) {G : Nat → Prop} {M' : DM} : (fs.set i (some ⟨f.r, f.d, G, M', f.A⟩)).map oMem = fs.map oMem ∧ (fs.set i (some ⟨f.r, f.d, G, M', f.A⟩)).length = fs.length := by
  have hil := (List.getElem?_eq_some_iff.1 hi).1
  refine ⟨?_, List.length_set ..⟩
  rw [List.map_set]
  refine List.ext_getElem? fun j => ?_
  rw [List.getElem?_set]
  split
  · next e =>
    subst e
    rw [List.length_map, if_pos hil, List.getElem?_map, hi]
    rfl
  · rfl
theorem Fls.mem (h : Fls K w0 w v fs side) {i : Nat} {o : Option Fk} (hi : fs[i]? = some o) : MemOf w (oPtr o) (oMem o) := by
  cases o with
  | none => exact .inl ⟨rfl, rfl⟩
  | some f => exact (h.one i f hi).1.mem
theorem Fls.rows (h : Fls K w0 w v fs side) : FlRow w v (fs.map oPtr) (fs.map oMem) := by
  refine ⟨?_, by simp, fun i p L h1 h2 => ?_⟩
  · rw [List.length_map]; exact RdC.of_owns h.row
  · rw [List.getElem?_map] at h1 h2
    obtain ⟨o, ho, rfl⟩ := Option.map_eq_some_iff.1 h1
    rw [ho] at h2
    cases h2
    exact h.mem ho
end
end Go.Proofs.Ytgomilodeaafdaa
namespace Go.Proofs.Ytgomilodeaafdaa
open Go.ChangeShapes Go.WideShapes Go.ChangeAt Go.RowKit
section
variable {H : Type} {enc : TypeId × Value → H} {P : Program} {w : World} {base : Nat} {held : Bool} {r : Reach} {b0 N : Nat} {t : TypeId} {v : Value} {d : DataW H} {p : List MemPlace}
/-- a slice opened, each element with its own datum -/
theorem open_listS {α : Type} {e : TypeId} {sz : Nat} (cs : α → List Value) (Q : α → DataW H → Prop) (hcs : ∀ x, (cs x).length = sz) (ht : P.underlying t = some (.slice e)) (hc : P.cellsOf e = sz)
    (hel : ∀ (n : Nat) (l : List Value) (y : DataW H × List MemPlace), DataW.trod enc P w base (fun _ => true) held n e l = some y → ∃ x, l = cs x ∧ Q x y.1)
    {fuel : Nat} {c : Value} (hf : DataW.trod enc P w base (fun _ => true) held fuel t [c] = some (d, p)) :
    ∃ (l : List α) (ds : List (DataW H)), RdC w sz c l.length (l.flatMap cs) ∧ ds.length = l.length ∧ Rows.uptoBulkAll ds ≤ Rows.uptoBulk d ∧ ∀ (i : Nat) (x : α) (d' : DataW H), l[i]? = some x → ds[i]? = some d' → Q x d' := by
  rcases Go.Deep.open_slice ht hf with ⟨hcs0, hx⟩ | ⟨a', len', cap', m, n, D, Pl, hcs1, hb, hl, hm, hmm, hx, hi⟩
  · cases List.singleton_inj.1 hcs0
    exact ⟨[], [], RdC.nil w sz, rfl, Nat.zero_le _, fun i x d' h => by simp at h⟩
  · cases List.singleton_inj.1 hcs1
    simp only [if_true] at hmm
    subst hmm
    have hd : d = .slice ((List.range len').map D) ((List.range (m - len')).map fun j => D (len' + j)) := (Prod.mk.injEq .. ▸ hx).1
    have hbk : Rows.uptoBulk d = Rows.uptoBulkAll ((List.range len').map D) + Rows.uptoBulkAll ((List.range (m - len')).map fun j => D (len' + j)) + 1 := by rw [hd]; simp only [Rows.uptoBulk]
    have hall : ∀ k, k ≤ len' → ∃ l : List α, l.length = k ∧ (∀ j u, (l.flatMap cs)[j]? = some u → w.cell? (a'.add j) = some u) ∧ ∀ i x, l[i]? = some x → Q x (D i) := by
      intro k
      induction k with
      | zero => intro _; exact ⟨[], rfl, fun j u hu => by simp at hu, fun i x hx => by simp at hx⟩
      | succ k ih =>
        intro hk
        obtain ⟨l, hll, hlc, hlq⟩ := ih (by omega)
        obtain ⟨c', hc1, hc2⟩ := hi k (by omega)
        obtain ⟨x, rfl, hq⟩ := hel n c' _ hc2
        obtain ⟨_, hcl, hat⟩ := World.cells?_some hc1
        refine ⟨l ++ [x], by simp [hll], fun j u hu => ?_, fun i y hy => ?_⟩
        · have hlen : (l.flatMap cs).length = k * sz := by
            rw [List.length_flatMap]
            have : l.map (fun x => (cs x).length) = l.map (fun _ => sz) := List.map_congr_left (fun x _ => hcs x)
            rw [this, List.map_const', List.sum_replicate_nat, hll]
          rw [List.flatMap_append, List.flatMap_singleton, List.getElem?_append] at hu
          split at hu
          · exact hlc j u hu
          · rename_i hge
            have hj : j - k * sz < sz := by
              have := (List.getElem?_eq_some_iff.1 hu).1
              rw [hcs, hlen] at this; exact this
            have h2 := hat (j - k * sz) (by rw [hc]; exact hj)
            rw [hlen] at hu hge
            rw [hc, Go.Deep.add_add, show k * sz + (j - k * sz) = j by omega] at h2
            exact h2.trans hu
        · rw [List.getElem?_append] at hy
          split at hy
          · exact hlq i y hy
          · rename_i hge
            have h1 := (List.getElem?_eq_some_iff.1 hy).1
            simp only [List.length_singleton] at h1
            have e : i = k := by omega
            subst e
            rw [hll, Nat.sub_self] at hy
            cases hy
            exact hq
    obtain ⟨l, hll, hlc, hlq⟩ := hall len' (Nat.le_refl _)
    subst hll
    refine ⟨l, (List.range l.length).map D, ⟨?_, some a', m, rfl, hl, hm, (fun e => by cases e), fun ad had => by cases had; exact hlc⟩, by simp, by omega, fun i x d' hx hd' => ?_⟩
    · rw [List.length_flatMap]
      have : l.map (fun x => (cs x).length) = l.map (fun _ => sz) := List.map_congr_left (fun x _ => hcs x)
      rw [this, List.map_const', List.sum_replicate_nat]
    · have hi := (List.getElem?_eq_some_iff.1 hx).1
      rw [List.getElem?_map, List.getElem?_range hi] at hd'
      cases hd'
      exact hlq i x hx
theorem sum_bulk {α : Type} (μ : α → Nat) : ∀ (l : List α) (ds : List (DataW H)), ds.length = l.length → (∀ (i : Nat) (x : α) (d' : DataW H), l[i]? = some x → ds[i]? = some d' → μ x ≤ Rows.uptoBulk d') → (l.map μ).sum ≤ Rows.uptoBulkAll ds
  | [], ds, _, _ => by simp
  | x :: l, [], h, _ => by simp at h
  | x :: l, d :: ds, h, hq => by
    have h1 := hq 0 x d rfl rfl
    have h2 := sum_bulk μ l ds (by simpa using h) (fun i y d' hy hd => hq (i + 1) y d' hy hd)
    simp only [List.map_cons, List.sum_cons, Rows.uptoBulkAll]
    omega
end
/-- a list of texts in a list -/
abbrev LsB := Value × List ByteArray
def lsb (x : LsB) : List Value := [x.1]
theorem lsb_len (x : LsB) : (lsb x).length = 1 := rfl
theorem lsb_flat (l : List LsB) : l.flatMap lsb = l.map (·.1) := by
  induction l with
  | nil => rfl
  | cons x l ih => rw [List.flatMap_cons, ih]; rfl
def LsOk (N : Nat) (w : World) (x : LsB) : Prop := RdC w 1 x.1 x.2.length (x.2.map .string) ∧ x.2.length ≤ N ∧ ∀ s ∈ x.2, s.size ≤ N
theorem str_flat (l : List ByteArray) : l.flatMap (fun s => [Value.string s]) = l.map .string := by
  induction l with
  | nil => rfl
  | cons x l ih => rw [List.flatMap_cons, ih]; rfl
section
variable {H : Type} {enc : TypeId × Value → H} {w : World} {base : Nat} {held : Bool} {r : Reach} {b0 N : Nat} {v : Value} {d : DataW H} {p : List MemPlace}
theorem ts_read (n : Nat) (l : List Value) (y : DataW H × List MemPlace) (h : DataW.trod enc Try.prog w base (fun _ => true) held n 9 l = some y) : ∃ x : ByteArray, l = [.string x] ∧ x.size ≤ Rows.uptoBulk y.1 := by
  obtain ⟨x1, g1, h2, _⟩ := DataW.trod_string Try.underlying9 h
  refine ⟨x1, g1, ?_⟩
  rw [h2]
  simp only [Rows.uptoBulk]
  have e : x1.data.toList.length = x1.size := by simp
  omega
theorem texts_in {fuel : Nat} {c : Value} (hf : DataW.trod enc Try.prog w base (fun _ => true) held fuel 39 [c] = some (d, p)) : ∃ S : List ByteArray, LsOk (Rows.uptoBulk d) w (c, S) := by
  obtain ⟨S, h1, h2, h3⟩ := open_listQ (α := ByteArray) (fun s => [.string s]) (fun s d' => s.size ≤ Rows.uptoBulk d') (fun _ => rfl) Try.underlying39 (by kernel_rfl) ts_read hf
  rw [str_flat] at h1
  exact ⟨S, h1, h2, fun s hs => by obtain ⟨d', h4, h5⟩ := h3 s hs; omega⟩
set_option maxRecDepth 100000 in
theorem open_texts (hv : Value.okWide Try.prog w r b0 39 v) (h : DataW.Trod enc Try.prog w base (fun _ => true) held 39 v d p) (hb : Rows.uptoBulk d ≤ N) : ∃ S : List ByteArray, LsOk N w (v, S) := by
  obtain ⟨a, len, cap, rfl⟩ := okWide_slice Try.underlying39 hv
  obtain ⟨fuel, hf⟩ := h
  obtain ⟨S, h1, h2, h3⟩ := texts_in hf
  exact ⟨S, h1, Nat.le_trans h2 hb, fun s hs => Nat.le_trans (h3 s hs) hb⟩
theorem cell1 {P : Program} {t : TypeId} {n : Nat} {l : List Value} {y : DataW H × List MemPlace} {e : TypeId} (ht : P.underlying t = some (.slice e)) (h : DataW.trod enc P w base (fun _ => true) held n t l = some y) : ∃ c, l = [c] := by
  obtain ⟨d, p⟩ := y
  rcases Go.Deep.open_slice ht h with ⟨h1, _⟩ | ⟨_, _, _, _, _, _, _, h1, _⟩
  · exact ⟨_, h1⟩
  · exact ⟨_, h1⟩
theorem ls_read (n : Nat) (l : List Value) (y : DataW H × List MemPlace) (h : DataW.trod enc Try.prog w base (fun _ => true) held n 39 l = some y) : ∃ x : LsB, l = lsb x ∧ LsOk (Rows.uptoBulk y.1) w x := by
  obtain ⟨c, rfl⟩ := cell1 Try.underlying39 h
  obtain ⟨S, hS⟩ := texts_in (d := y.1) (p := y.2) h
  exact ⟨(c, S), rfl, hS⟩
set_option maxRecDepth 100000 in
theorem open_lists (hv : Value.okWide Try.prog w r b0 81 v) (h : DataW.Trod enc Try.prog w base (fun _ => true) held 81 v d p) (hb : Rows.uptoBulk d ≤ N) :
    ∃ l : List LsB, RdC w 1 v l.length (l.map (·.1)) ∧ (∀ x ∈ l, LsOk N w x) ∧ l.length ≤ N ∧ (l.map fun x => x.2.length).sum ≤ N := by
  obtain ⟨a, len, cap, rfl⟩ := okWide_slice Try.underlying81 hv
  obtain ⟨fuel, hf⟩ := h
  obtain ⟨l, ds, h1, h2, h3, h4⟩ := open_listS (α := LsB) lsb (fun x d' => LsOk (Rows.uptoBulk d') w x) lsb_len Try.underlying81 (by kernel_rfl) ls_read hf
  rw [lsb_flat] at h1
  have h5 := sum_bulk (fun x : LsB => x.2.length) l ds h2 (fun i x d' hx hd => (h4 i x d' hx hd).2.1)
  have h6 := bulk_len ds
  refine ⟨l, h1, fun x hx => ?_, by omega, by omega⟩
  obtain ⟨i, hi, hxi⟩ := List.getElem_of_mem hx
  have hd : i < ds.length := by omega
  obtain ⟨q1, q2, q3⟩ := h4 i x ds[i] (by rw [List.getElem?_eq_getElem hi, hxi]) (List.getElem?_eq_getElem hd)
  have h7 := bulk_part (List.getElem_mem hd)
  exact ⟨q1, by omega, fun s hs => by have := q3 s hs; omega⟩
end
end Go.Proofs.Ytgomilodeaafdaa
namespace Go.Proofs.Ytgomilodeaafdaa
open Go.RowKit Du
theorem cn_flat (Ls : List (List ByteArray)) (hd : ∀ L ∈ Ls, L.Nodup) (x : ByteArray) : cn Ls.flatten x = (Ls.filter fun L => inL x L).length := by
  induction Ls with
  | nil => rfl
  | cons L r ih =>
    rw [List.flatten_cons, cn_append, ih (fun M hM => hd M (List.mem_cons_of_mem _ hM)), cn_nodup (hd L (List.mem_cons_self ..)), List.filter_cons]
    split
    · rw [List.length_cons]; omega
    · omega
theorem cn_take {Ls : List (List ByteArray)} (hd : ∀ L ∈ Ls, L.Nodup) {k : Nat} {L : List ByteArray} (hk : Ls[k]? = some L) (x : ByteArray) : cn (Ls.take (k + 1)).flatten x = cn (Ls.take k).flatten x + if inL x L = true then 1 else 0 := by
  obtain ⟨hlt, hL⟩ := List.getElem?_eq_some_iff.1 hk
  rw [List.take_succ_eq_append_getElem hlt, List.flatten_append, List.flatten_singleton, cn_append, hL, cn_nodup (hd L (List.mem_of_getElem? hk))]
theorem cn_lists_le {Ls : List (List ByteArray)} (hd : ∀ L ∈ Ls, L.Nodup) (x : ByteArray) : cn Ls.flatten x ≤ Ls.length := by
  rw [cn_flat Ls hd]; exact List.length_filter_le _ _
theorem cn_all {Ls : List (List ByteArray)} (hd : ∀ L ∈ Ls, L.Nodup) {x : ByteArray} (h : cn Ls.flatten x = Ls.length) : ∀ L ∈ Ls, x ∈ L := by
  rw [cn_flat Ls hd] at h
  intro L hL
  have := (List.length_filter_eq_length_iff.1 h) L hL
  exact inL_iff.1 this
theorem in_chosen {S l : List ByteArray} {n : Int} {x : ByteArray} : inL x (chosenBy S n l) = (inL x l && decide ((cn S x : Int) = n)) := by
  by_cases h : x ∈ chosenBy S n l
  · rw [inL_iff.2 h]
    unfold chosenBy at h
    obtain ⟨h1, h2⟩ := List.mem_filter.1 h
    rw [inL_iff.2 h1, h2]; rfl
  · rw [inL_no h]
    unfold chosenBy at h
    rw [List.mem_filter] at h
    cases h1 : inL x l
    · rfl
    · cases h2 : decide ((cn S x : Int) = n)
      · rfl
      · exact absurd ⟨inL_iff.1 h1, h2⟩ h
theorem in_inter {L0 : List ByteArray} {r : List (List ByteArray)} (hd : ∀ L ∈ L0 :: r, L.Nodup) (x : ByteArray) : inL x (interL (L0 :: r)) = decide (cn (L0 :: r).flatten x = (L0 :: r).length) := by
  unfold interL
  rw [in_chosen]
  have e : decide ((cn (L0 :: r).flatten x : Int) = ((L0 :: r).length : Nat)) = decide (cn (L0 :: r).flatten x = (L0 :: r).length) := decide_eq_decide.2 (by omega)
  rw [e]
  by_cases h : cn (L0 :: r).flatten x = (L0 :: r).length
  · have := cn_all hd h L0 (List.mem_cons_self ..)
    rw [show (L0 :: r).headD [] = L0 from rfl, inL_iff.2 this, Bool.true_and]
  · rw [decide_eq_false h, Bool.and_false]
theorem in_diff {L0 : List ByteArray} {r : List (List ByteArray)} (x : ByteArray) : inL x (diffL (L0 :: r)) = (decide (cn (L0 :: r).flatten x = 1) && inL x L0) := by
  unfold diffL
  rw [in_chosen, Bool.and_comm]
  have e : decide ((cn (L0 :: r).flatten x : Int) = 1) = decide (cn (L0 :: r).flatten x = 1) := decide_eq_decide.2 (by omega)
  rw [e]; rfl
theorem in_union {S u : List ByteArray} (h : RisesOf S u) (x : ByteArray) : inL x u = decide (0 < cn S x) := by
  by_cases hx : x ∈ S
  · rw [inL_iff.2 ((h.2 x).2 hx), decide_eq_true (cn_pos.2 hx)]
  · rw [inL_no (fun e => hx ((h.2 x).1 e)), decide_eq_false (fun e => hx (cn_pos.1 e))]
theorem chosen_rises {S l : List ByteArray} {n : Int} (h : l.Pairwise ltS) : (chosenBy S n l).Pairwise ltS := h.sublist List.filter_sublist
/-- the lists but the first in another order -/
theorem back_perm (L0 : List ByteArray) (r : List (List ByteArray)) : (L0 :: r.reverse).flatten.Perm (L0 :: r).flatten := by
  rw [List.flatten_cons, List.flatten_cons]
  exact (List.Perm.refl _).append ((List.reverse_perm r).flatten)
theorem chosen_perm {S T l : List ByteArray} {n : Int} (h : S.Perm T) : chosenBy S n l = chosenBy T n l := by
  unfold chosenBy
  refine List.filter_congr fun x _ => ?_
  rw [cn_perm h]
theorem back_inter (L0 : List ByteArray) (r : List (List ByteArray)) : interL (L0 :: r.reverse) = interL (L0 :: r) := by
  unfold interL
  rw [show (L0 :: r.reverse).headD [] = L0 from rfl, show (L0 :: r).headD [] = L0 from rfl, chosen_perm (back_perm L0 r)]
  simp
theorem back_diff (L0 : List ByteArray) (r : List (List ByteArray)) : diffL (L0 :: r.reverse) = diffL (L0 :: r) := by
  unfold diffL
  rw [show (L0 :: r.reverse).headD [] = L0 from rfl, show (L0 :: r).headD [] = L0 from rfl, chosen_perm (back_perm L0 r)]
theorem back_union {L0 : List ByteArray} {r : List (List ByteArray)} {u l : List ByteArray} (h : RisesOf (L0 :: r).flatten u) (h' : RisesOf (L0 :: r.reverse).flatten l) : l = u :=
  h'.one h fun _ => (back_perm L0 r).mem_iff
theorem twice_diff {L : List ByteArray} (hd : L.Nodup) : diffL [L, L] = [] := by
  unfold diffL
  rw [show [L, L].headD [] = L from rfl]
  unfold chosenBy
  rw [List.filter_eq_nil_iff]
  intro x hx
  have : cn [L, L].flatten x = 2 := by
    simp only [List.flatten_cons, List.flatten_nil, List.append_nil]
    rw [cn_append, cn_nodup hd, if_pos (inL_iff.2 hx)]
  rw [this]
  decide
theorem twice_union {L l : List ByteArray} (hr : L.Pairwise ltS) (h : RisesOf [L, L].flatten l) : l = L :=
  h.one ⟨hr, fun _ => Iff.rfl⟩ fun x => by simp
end Go.Proofs.Ytgomilodeaafdaa
