/- What SessionKeeps' walk keeps: a session and the list of what was queued. No condition. -/
import Derived.Test.YtpcjogmikgfgdaaDoes26
import Derived.Deep.Cut
import Derived.Deep.CutBlock
namespace Go.Proofs.Ytpcjogmikgfgdaa
open Go.RowKit
/-- lists of texts that were there from the first -/
def Kx (w : World) (ks : List Value) (ls : List (List ByteArray)) : Prop := ks.length = ls.length ∧ ∀ (i : Nat) (l : List ByteArray), ls[i]? = some l → ∃ u, ks[i]? = some u ∧ RdC w 1 u l.length (l.map .string)
theorem Kx.nil (w : World) : Kx w [] [] := ⟨rfl, fun i l h => by simp at h⟩
theorem Kx.snoc {w : World} {ks : List Value} {ls : List (List ByteArray)} {v : Value} {l : List ByteArray} (h : Kx w ks ls) (hv : RdC w 1 v l.length (l.map .string)) : Kx w (ks ++ [v]) (ls ++ [l]) := by
  refine ⟨by simp [h.1], fun i x hx => ?_⟩
  rw [List.getElem?_append] at hx
  split at hx
  · obtain ⟨u, h1, h2⟩ := h.2 i x hx
    have := (List.getElem?_eq_some_iff.1 h1).1
    exact ⟨u, by rw [List.getElem?_append_left this]; exact h1, h2⟩
  · rename_i hge
    have hi : i - ls.length = 0 := by
      have := (List.getElem?_eq_some_iff.1 hx).1
      simp at this; omega
    rw [hi] at hx
    cases hx
    exact ⟨v, by rw [List.getElem?_append_right (by rw [h.1]; omega), h.1, hi]; rfl, hv⟩
structure Kp (w : World) (p m : Nat) (vq vk : Value) (S : SS) (V : World) : Prop where
  s : SessAt V w.heap.size p m vq S
  kept : ∃ ks, V.ownsRow w.heap.size 41 1 vk S.q.length ks ∧ Kx w ks S.q
  ap : ∀ g, vq.ownBlock = some g → vk.ownBlock ≠ some g
  shut : S.op = false → S.q = [] ∧ S.sp = false
  bel : Below w.heap.size w V
section
variable {w V V' : World} {p m : Nat} {vq vk : Value} {S S' : SS}
theorem row_ne {B : Nat} {v : Value} {n : Nat} {xs : List Value} (h : V.ownsRow B 41 1 v n xs) {b : Nat} {cs : Array Value} {t : TypeId} (hb : V.heap[b]? = some (.cells cs t (0, 0))) (ht : t ≠ 41) : v.ownBlock ≠ some b := by
  intro e
  obtain ⟨_, _, cs', hc⟩ := own_blk h e
  rw [hb] at hc
  simp only [Option.some.injEq, Obj.cells.injEq] at hc
  exact ht hc.2.1
theorem row_ne_map {B : Nat} {v : Value} {n : Nat} {xs : List Value} (h : V.ownsRow B 41 1 v n xs) {b : Nat} {es : Array MapEntry} {c : Nat} (hb : V.heap[b]? = some (.map es c)) : v.ownBlock ≠ some b := by
  intro e
  obtain ⟨_, _, cs', hc⟩ := own_blk h e
  rw [hb] at hc
  cases hc
theorem Kp.np (h : Kp w p m vq vk S V) : vk.ownBlock ≠ some p := by obtain ⟨ks, h1, _⟩ := h.kept; exact row_ne h1 h.s.blk (by decide)
theorem Kp.nm (h : Kp w p m vq vk S V) : vk.ownBlock ≠ some m := by obtain ⟨ks, h1, _⟩ := h.kept; obtain ⟨es, c, hb⟩ := h.s.map.isMap; exact row_ne_map h1 hb
theorem Kp.turn (h : Kp w p m vq vk S V) (hs : SessAt V' w.heap.size p m vq S') (hf : Fr (fun i => i = p ∨ i = m) V V') (hq : S'.q = S.q) (hsh : S'.op = false → S'.q = [] ∧ S'.sp = false) : Kp w p m vq vk S' V' := by
  obtain ⟨ks, h1, h2⟩ := h.kept
  refine ⟨hs, ⟨ks, ?_, by rw [hq]; exact h2⟩, h.ap, hsh, h.bel.trans (hf.below h.bel.size (fun i e => by rcases e with e | e; rw [e]; exact h.s.bp; rw [e]; exact h.s.bm))⟩
  rw [hq]
  exact owns_fr h1 hf (fun g hg e => e.elim (fun e => h.np (by rw [hg]; exact congrArg some e)) (fun e => h.nm (by rw [hg]; exact congrArg some e)))
theorem Kp.quiet (h : Kp w p m vq vk S V) (hf : Fr (fun _ => False) V V') : Kp w p m vq vk S V' :=
  h.turn (h.s.quiet hf) (hf.mono (fun _ h => h.elim)) rfl h.shut
/-- what was kept, as it is read -/
theorem Kp.ls (h : Kp w p m vq vk S V) : Ls V vk S.q := by
  obtain ⟨ks, h1, h2⟩ := h.kept
  exact ⟨ks, RdC.of_owns h1, fun i l hl => by obtain ⟨u, hu, hr⟩ := h2.2 i l hl; exact ⟨u, hu, hr.below h.bel⟩⟩
/-- behind an End -/
theorem Kp.ended (h : Kp w p m vq vk S V) {B : Nat} (hs : SessAt V' w.heap.size p m (.slice none 0 0) ⟨false, false, false, [], []⟩) (hf : Fr (fun i => i = p ∨ i = m) V V') : Kp w p m (.slice none 0 0) (.slice none 0 0) ⟨false, false, false, [], []⟩ V' :=
  ⟨hs, ⟨[], World.ownsRow_nil _ _ _ _, Kx.nil w⟩, fun g hg => by (cases hg), fun _ => ⟨rfl, rfl⟩, h.bel.trans (hf.below h.bel.size (fun i e => by rcases e with e | e; rw [e]; exact h.s.bp; rw [e]; exact h.s.bm))⟩
/-- what was kept, behind an End, as it is read -/
theorem Kp.ls_end (h : Kp w p m vq vk S V) (hf : Fr (fun i => i = p ∨ i = m) V V') : Ls V' vk S.q := by
  obtain ⟨ks, h1, h2⟩ := h.kept
  have hb := h.bel.trans (hf.below h.bel.size (fun i e => by rcases e with e | e; rw [e]; exact h.s.bp; rw [e]; exact h.s.bm))
  exact ⟨ks, RdC.of_owns (owns_fr h1 hf (fun g hg e => e.elim (fun e => h.np (by rw [hg]; exact congrArg some e)) (fun e => h.nm (by rw [hg]; exact congrArg some e)))), fun i l hl => by obtain ⟨u, hu, hr⟩ := h2.2 i l hl; exact ⟨u, hu, hr.below hb⟩⟩
/-- one more queued: the session has it, the list not yet -/
structure Kq (w : World) (p m : Nat) (vq vk : Value) (S : SS) (ws : List ByteArray) (V : World) : Prop where
  s : SessAt V w.heap.size p m vq { S with q := S.q ++ [ws] }
  kept : ∃ ks, V.ownsRow w.heap.size 41 1 vk S.q.length ks ∧ Kx w ks S.q
  ap : ∀ g, vq.ownBlock = some g → vk.ownBlock ≠ some g
  op : S.op = true
  bel : Below w.heap.size w V
theorem Kp.queued (h : Kp w p m vq vk S V) {vq' : Value} {ws : List ByteArray} (hop : S.op = true) (hs : SessAt V' w.heap.size p m vq' { S with q := S.q ++ [ws] }) (hat : ∀ g, vq'.ownBlock = some g → vq.ownBlock = some g ∨ V.heap.size ≤ g) (hf : Fr (fun k => k = p ∨ vq.ownBlock = some k) V V') : Kq w p m vq' vk S ws V' := by
  obtain ⟨ks, h1, h2⟩ := h.kept
  refine ⟨hs, ⟨ks, owns_fr h1 hf (fun g hg e => e.elim (fun e => h.np (by rw [hg]; exact congrArg some e)) (fun e => h.ap g e hg)), h2⟩, fun g hg e => ?_, hop, h.bel.trans (hf.below h.bel.size (fun i e => ?_))⟩
  · rcases hat g hg with h3 | h3
    · exact h.ap g h3 e
    · have := (own_blk h1 e).2.1; omega
  · rcases e with e | e
    · rw [e]; exact h.s.bp
    · obtain ⟨qs, h3, _⟩ := h.s.row
      exact (own_blk h3 e).1
/-- .. and now the list too -/
theorem Kq.fin {vk' : Value} {ws : List ByteArray} {wv : Value} {V1 V2 : World} {ks : List Value} (h : Kq w p m vq vk S ws V) (hkx : Kx w ks S.q) (hrow : V.ownsRow w.heap.size 41 1 vk S.q.length ks) (hw : RdC w 1 wv ws.length (ws.map .string)) (h1 : Fr (fun _ => False) V V1)
    (hown : V2.ownsRow w.heap.size 41 1 vk' (S.q.length + 1) (ks ++ [wv])) (hg : V1.grownBy V2 vk.ownBlock) (hat : ∀ g, vk'.ownBlock = some g → vk.ownBlock = some g ∨ V1.heap.size ≤ g) : Kp w p m vq vk' { S with q := S.q ++ [ws] } V2 := by
  have hf : Fr (fun k => vk.ownBlock = some k) V V2 := (h1.mono (T := fun k => vk.ownBlock = some k) (fun _ h => h.elim)).wide (Fr.of_grownBy hg) (fun i hi => .inl hi)
  have n1 : vk.ownBlock ≠ some p := row_ne hrow h.s.blk (by decide)
  have n2 : vk.ownBlock ≠ some m := by obtain ⟨es, c, hb⟩ := h.s.map.isMap; exact row_ne_map hrow hb
  refine ⟨h.s.fr hf (fun k hk => ⟨fun e => n1 (by rw [← e]; exact hk), fun e => n2 (by rw [← e]; exact hk), fun e => h.ap k e hk, ?_⟩), ⟨_, by rw [List.length_append]; exact hown, hkx.snoc hw⟩, fun g hgq e => ?_, (fun e => by rw [h.op] at e; cases e), h.bel.trans (hf.below h.bel.size (fun i hi => (own_blk hrow hi).1))⟩
  · obtain ⟨_, _, cs, hc⟩ := own_blk hrow hk
    exact not_tb hc (by decide)
  · rcases hat g e with h3 | h3
    · exact h.ap g hgq h3
    · obtain ⟨qs, h4, _⟩ := h.s.row
      have := (own_blk h4 hgq).2.1
      have := h1.size
      omega
end
theorem doesS_keep (o : St) (S : SS) : (doesS o S).q = S.q ∧ (doesS o S).op = S.op ∧ (S.op = false → S.sp = false → (doesS o S).sp = false) := by
  unfold doesS
  split
  · exact ⟨rfl, rfl, fun h1 h2 => by simp [h1, h2]⟩
  · split
    · exact ⟨rfl, rfl, fun _ h => h⟩
    · split
      · exact ⟨rfl, rfl, fun _ h => h⟩
      · exact ⟨rfl, rfl, fun _ h => h⟩
theorem doesS_same (o : St) (S : SS) (h2 : o.do_ ≠ 2) (h5 : o.do_ ≠ 5) (h6 : o.do_ ≠ 6) : doesS o S = S := by
  unfold doesS; rw [if_neg h2, if_neg h5, if_neg h6]
/-- a box that is none of a session's blocks stays -/
theorem box_stays {w V V' : World} {p m : Nat} {vq vk : Value} {S : SS} (h : Kp w p m vq vk S V) {b : Nat} {cs : Array Value} (hb : V.heap[b]? = some (.cells cs 43 (0, 0))) (hf : Fr (fun i => i = p ∨ i = m) V V') : V'.heap[b]? = some (.cells cs 43 (0, 0)) := by
  refine (hf.block b (Array.getElem?_eq_some_iff.1 hb).1 (fun e => ?_)).trans hb
  rcases e with e | e
  · have h4 := h.s.blk
    rw [← e, hb] at h4
    simp only [Option.some.injEq, Obj.cells.injEq] at h4
    exact absurd h4.2.1 (by decide)
  · obtain ⟨es, c, h4⟩ := h.s.map.isMap
    rw [← e, hb] at h4
    cases h4
end Go.Proofs.Ytpcjogmikgfgdaa
