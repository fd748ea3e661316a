/- What DictDrawn's walk keeps: a dict, its list, a list of texts, apart from each other; what is drawn is there. No condition. -/
import Derived.Test.YtkecipdonamjaaaSteps
import Derived.Test.YtkecipdonamjaaaTexts
namespace Go.Proofs.Ytkecipdonamjaaa
open Go.RowKit Di

theorem rows_apart {w : World} {B B' : Nat} {e e' : TypeId} {s s' n n' : Nat} {v v' : Value} {xs xs' : List Value} (h : w.ownsRow B e s v n xs) (h' : w.ownsRow B' e' s' v' n' xs') (he : e ≠ e') :
    ∀ g, v.ownBlock = some g → ¬ v'.ownBlock = some g := by
  intro g h1 h2
  rcases h.2 with ⟨rfl, _⟩ | ⟨g1, cap, cur, rfl, _, hg, _⟩
  · cases h1
  · cases h1
    rcases h'.2 with ⟨rfl, _⟩ | ⟨g2, cap2, cur2, rfl, _, hg2, _⟩
    · cases h2
    · cases h2
      rw [hg] at hg2
      simp only [Option.some.injEq, Obj.cells.injEq] at hg2
      exact he hg2.2.1
/-- a row of texts of its own -/
abbrev RowS (B : Nat) (w : World) (v : Value) (S : List ByteArray) : Prop := w.ownsRow B 9 1 v S.length (S.map .string)
structure Dr (w0 : World) (B : Nat) (w : World) (d : Nat) (M : DM) (v : Value) (L : Pl) (vs : Value) (S : List ByteArray) : Prop where
  pr : Pr B w d M v L
  row : RowS B w vs S
  bel : Below B w0 w
section
variable {w0 w w' : World} {B d : Nat} {M : DM} {v vs : Value} {L : Pl} {S : List ByteArray}
theorem Dr.quiet (h : Dr w0 B w d M v L vs S) (hf : Fr (fun _ => False) w w') : Dr w0 B w' d M v L vs S :=
  ⟨h.pr.other hf (fun _ _ h => h) (fun _ _ h => h), owns_fr h.row hf (fun _ _ h => h), h.bel.trans (hf.below h.pr.le (fun _ h => h.elim))⟩
theorem Dr.app (h : Dr w0 B w d M v L vs S) (hg : w.grownBy w' vs.ownBlock) {vs' : Value} {S' : List ByteArray} (hr : RowS B w' vs' S') : Dr w0 B w' d M v L vs' S' := by
  have hf := Fr.of_grownBy hg
  refine ⟨h.pr.other hf (fun k hk e => row_apart h.pr.dat h.row (by decide) k e hk) (fun g hv e => rows_apart h.pr.row h.row (by decide) g hv e), hr, h.bel.trans (hf.below h.pr.le (fun i hi => (h.row.lt i hi).1))⟩
end
theorem info_str : (Try.prog.info? 9).map (fun i => (i.zero, i.size, i.bytes)) = some (some (.string ⟨#[]⟩), 1, 16) := by kernel_rfl
theorem one_strs (l : List ByteArray) : ∀ u ∈ l.map Value.string, u.oneCell' = true := by
  intro u hu; obtain ⟨x, _, rfl⟩ := List.mem_map.1 hu; rfl
theorem any_snoc {α : Type} (p : α → Bool) (l : List α) (k : Nat) (h : k < l.length) : (l.take (k + 1)).any p = ((l.take k).any p || p l[k]) := by
  rw [List.take_succ_eq_append_getElem h, List.any_append]; simp
/-- what is drawn is there -/
theorem like_mem {M : DM} {L : Pl} (h : Like M L) {e : E} (he : e ∈ entries M) : ∃ x, (e.key, x) ∈ L := by
  have h1 : (e.key, e.val) ∈ tb M := List.mem_map.2 ⟨e, he, rfl⟩
  obtain ⟨y, hy, hye⟩ := List.mem_map.1 (h.perm.mem_iff.1 h1)
  obtain ⟨k, x⟩ := y
  simp only [enPair, Prod.mk.injEq] at hye
  exact ⟨x, by rw [← hye.1]; exact hy⟩
theorem like_entry {M : DM} {L : Pl} (h : Like M L) {e : En} (he : e ∈ L) : ∃ x ∈ entries M, x.key = e.1 := by
  have h1 : enPair e ∈ tb M := h.perm.mem_iff.2 (List.mem_map.2 ⟨e, he, rfl⟩)
  obtain ⟨x, hx, hxe⟩ := List.mem_map.1 h1
  exact ⟨x, hx, congrArg Prod.fst hxe⟩
theorem drawn_in {M : DM} {L : Pl} (h : Like M L) (hn : L ≠ []) (r : Nat) : L.any (fun e => decide (e.1 = drawM M r)) = true := by
  have hc : M.n ≠ 0 := by rw [h.count]; intro e; exact hn (List.length_eq_zero_iff.1 e)
  obtain ⟨e, he, hd⟩ := draw_there h.inv hc r
  obtain ⟨x, hx⟩ := like_mem h he
  rw [List.any_eq_true]
  exact ⟨_, hx, by rw [decide_eq_true_eq, hd]⟩
theorem in_drawn {M : DM} {L : Pl} (h : Like M L) {e : En} (he : e ∈ L) : ((List.range ((opn M).length * M.n)).map (drawM M)).any (fun x => decide (x = e.1)) = true := by
  obtain ⟨y, hy, hk⟩ := like_entry h he
  obtain ⟨r, hr, hd⟩ := draw_all h.inv y hy
  rw [List.any_eq_true]
  exact ⟨_, List.mem_map.2 ⟨r, List.mem_range.2 hr, rfl⟩, by rw [decide_eq_true_eq, hd, hk]⟩
theorem opn_len (M : DM) : (opn M).length = M.old.length - M.at_ + M.young.length := by simp [opn]
end Go.Proofs.Ytkecipdonamjaaa
