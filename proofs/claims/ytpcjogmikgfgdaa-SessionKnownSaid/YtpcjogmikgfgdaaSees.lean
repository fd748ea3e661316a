/- What SessionSees' walk keeps: a session and the list of what is watched, apart from it. No condition. -/
import Derived.Test.YtpcjogmikgfgdaaDoes26F
import Derived.Test.YtpcjogmikgfgdaaAmong26
import Derived.Deep.Cut
import Derived.Deep.CutBlock
import Derived.Laws.Cover1
import Derived.Sort.Walk0
namespace Go.Proofs.Ytpcjogmikgfgdaa
open Go.RowKit
structure Sw (w : World) (F : Nat → Prop) (p m : Nat) (vq vw : Value) (S : SS) (V : World) : Prop where
  f : SessF V w.heap.size F p m vq S
  row : V.ownsRow w.heap.size 9 1 vw S.wt.length (S.wt.map .string)
  nf : ∀ g, vw.ownBlock = some g → ¬ F g
  bel : Below w.heap.size w V
section
variable {w V V' : World} {F F' : Nat → Prop} {p m : Nat} {vq vq' vw : Value} {S S' : SS}
theorem Sw.step (h : Sw w F p m vq vw S V) (hs : SessF V' w.heap.size F' p m vq' S') (hf : Fr F V V') (hF : ∀ k, F' k → F k ∨ V.heap.size ≤ k) (hw : S'.wt = S.wt) : Sw w F' p m vq' vw S' V' := by
  refine ⟨hs, by rw [hw]; exact owns_fr h.row hf h.nf, fun g hg hk => ?_, h.bel.trans (hf.below h.bel.size (fun i hi => (h.f.lt i hi).1))⟩
  rcases hF g hk with hk | hk
  · exact h.nf g hg hk
  · have := (own_blk h.row hg).2.1; omega
theorem Sw.turn (h : Sw w F p m vq vw S V) (hs : SessAt V' w.heap.size p m vq S') (hf : Fr (fun i => i = p ∨ i = m) V V') (hw : S'.wt = S.wt) : Sw w F p m vq vw S' V' :=
  h.step (h.f.turn hs hf) (fr_two hf h.f.fp h.f.fm) (fun k hk => .inl hk) hw
theorem Sw.quiet (h : Sw w F p m vq vw S V) (hf : Fr (fun _ => False) V V') : Sw w F p m vq vw S V' :=
  h.step (h.f.quiet hf) (hf.mono (fun _ h => h.elim)) (fun k hk => .inl hk) rfl
/-- nothing is watched any more -/
theorem Sw.reset (h : Sw w F p m vq vw S V) (hs : SessF V' w.heap.size F' p m vq' S') (hf : Fr F V V') (hw : S'.wt = []) : Sw w F' p m vq' (.slice none 0 0) S' V' :=
  ⟨hs, by rw [hw]; exact World.ownsRow_nil _ _ _ _, fun g hg => (by cases hg), h.bel.trans (hf.below h.bel.size (fun i hi => (h.f.lt i hi).1))⟩
theorem Sw.app {op sp di : Bool} {q : List (List ByteArray)} {wt : List ByteArray} {k : ByteArray} {V1 V2 : World} {vw' : Value} (h : Sw w F p m vq vw ⟨op, sp, di, q, wt⟩ V) (hs : SessAt V' w.heap.size p m vq ⟨op, sp, di, q, wt ++ [k]⟩) (hf : Fr (fun i => i = m) V V') (h1 : Fr (fun _ => False) V' V1)
    (hown : V2.ownsRow w.heap.size 9 1 vw' (wt.length + 1) (wt.map .string ++ [.string k])) (hg : V1.grownBy V2 vw.ownBlock) (hat : ∀ g, vw'.ownBlock = some g → vw.ownBlock = some g ∨ V1.heap.size ≤ g) : Sw w F p m vq vw' ⟨op, sp, di, q, wt ++ [k]⟩ V2 := by
  have hf0 : Fr (fun i => i = p ∨ i = m) V V' := hf.mono (fun _ h _ => .inr h)
  have hF1 := h.f.turn hs hf0
  have hf2 : Fr (fun g => vw.ownBlock = some g) V' V2 := (h1.mono (T := fun g => vw.ownBlock = some g) (fun _ h => h.elim)).wide (Fr.of_grownBy hg) (fun i hi => .inl hi)
  refine ⟨hF1.other hf2 (fun k hk e => h.nf k e hk), ?_, fun g hgv hk => ?_, ?_⟩
  · simpa using hown
  · rcases hat g hgv with e | e
    · exact h.nf g e hk
    · have := (hF1.lt g hk).2
      have := h1.size
      omega
  · have b1 := h.bel.trans ((fr_two hf0 h.f.fp h.f.fm).below h.bel.size (fun i hi => (h.f.lt i hi).1))
    have hrow' := owns_fr h.row (fr_two hf0 h.f.fp h.f.fm) h.nf
    exact b1.trans (hf2.below b1.size (fun i hi => (own_blk hrow' hi).1))
end
theorem dirty_take (b : Bool) (wt ws : List ByteArray) (k : Nat) (h : k < ws.length) : (b || (ws.take (k + 1)).any (fun x => inL x wt)) = ((b || (ws.take k).any (fun x => inL x wt)) || inL ws[k] wt) := by
  rw [any_take _ _ _ h, Bool.or_assoc]
/-- rising, each once -/
theorem sortS_lt (l : List ByteArray) (hn : l.Nodup) (i : Nat) (h : i + 1 < (sortS l).length) : Op.bytesLess ((sortS l)[i]'(by omega)).toList ((sortS l)[i + 1]).toList = true := by
  have tr : ∀ a b c : List UInt8, leB a b = true → leB b c = true → leB a c = true := fun a b c h1 h2 => by simp only [leB, decide_eq_true_eq] at *; exact List.le_trans h1 h2
  have tot : ∀ a b : List UInt8, (leB a b || leB b a) = true := fun a b => by simp only [leB, Bool.or_eq_true, decide_eq_true_eq]; exact List.le_total a b
  have hp := List.pairwise_mergeSort tr tot (l.map bytesL)
  have hnd : ((l.map bytesL).mergeSort leB).Nodup := (List.mergeSort_perm _ _).nodup_iff.2 (List.pairwise_map.2 (hn.imp (fun h e => h (bytes_ext e))))
  have hl : i + 1 < ((l.map bytesL).mergeSort leB).length := by simpa [sortS] using h
  have h1 := List.pairwise_iff_getElem.1 hp i (i + 1) (by omega) hl (by omega)
  have h2 := List.pairwise_iff_getElem.1 hnd i (i + 1) (by omega) hl (by omega)
  have e : ∀ (j : Nat) (hj : j < (sortS l).length), ((sortS l)[j]).toList = ((l.map bytesL).mergeSort leB)[j]'(by simpa [sortS] using hj) := fun j hj => by
    have hj2 : j < ((l.map bytesL).mergeSort leB).length := by simpa [sortS] using hj
    have h1 : (sortS l)[j]? = some (ofB (((l.map bytesL).mergeSort leB)[j])) := by
      unfold sortS
      rw [List.getElem?_map, List.getElem?_eq_getElem hj2]
      rfl
    rw [List.getElem?_eq_getElem hj] at h1
    rw [Option.some.inj h1, Go.ByteArray.toList_eq]
    rfl
  rw [e i (by omega), e (i + 1) h, bytesLess_eq, decide_eq_true_eq]
  simp only [leB, decide_eq_true_eq] at h1
  exact List.not_le.1 (fun h3 => h2 (List.le_antisymm h1 h3))
theorem mem_sortS (l : List ByteArray) (k : ByteArray) : k ∈ sortS l ↔ k ∈ l := by
  unfold sortS
  rw [List.mem_map]
  constructor
  · rintro ⟨b, hb, rfl⟩
    rw [(List.mergeSort_perm _ _).mem_iff, List.mem_map] at hb
    obtain ⟨x, hx, rfl⟩ := hb
    rw [ofB_bytes]; exact hx
  · intro hk
    exact ⟨bytesL k, (List.mergeSort_perm _ _).mem_iff.2 (List.mem_map.2 ⟨k, hk, rfl⟩), ofB_bytes k⟩
end Go.Proofs.Ytpcjogmikgfgdaa
