/- Which blocks are a session's: its footprint, and what keeps it. No condition. -/
import Derived.Test.YtpcjogmikgfgdaaSessC
namespace Go.Proofs.Ytpcjogmikgfgdaa
open Go.RowKit
theorem own_unique {w : World} {B B' : Nat} {e : TypeId} {s : Nat} {v : Value} {n n' : Nat} {xs ys : List Value} (h : w.ownsRow B e s v n xs) (h' : w.ownsRow B' e s v n' ys) : n = n' ∧ xs = ys := by
  rcases h.2 with ⟨rfl, rfl⟩ | ⟨g, cap, cur, rfl, hb, hg, hnc, hcm, hcs, htake⟩
  · rcases h'.2 with ⟨_, rfl⟩ | ⟨g', cap', cur', he, _⟩
    · have h1 := h.1
      have h2 := h'.1
      simp only [Nat.zero_mul, List.length_eq_zero_iff] at h1 h2
      exact ⟨rfl, h1.trans h2.symm⟩
    · cases he
  · rcases h'.2 with ⟨he, _⟩ | ⟨g', cap', cur', he, hb', hg', _, _, _, htake'⟩
    · cases he
    · cases he
      rw [hg] at hg'
      simp only [Option.some.injEq, Obj.cells.injEq] at hg'
      exact ⟨rfl, by rw [← htake, ← htake', hg'.1]⟩
section
variable {w w' : World} {T : Nat → Prop} {B p m : Nat} {vq vq' : Value} {S S' : SS} {F : Nat → Prop}
theorem Txts.fr2 {vs : List Value} {ls : List (List ByteArray)} (h : Txts w vs ls) (hf : Fr T w w') (hT : ∀ u ∈ vs, ∀ g, u.ownBlock = some g → ¬ T g) : Txts w' vs ls :=
  ⟨h.1, fun i l hl => by
    obtain ⟨v, h1, h2⟩ := h.2 i l hl
    have hm := hT v (List.mem_of_getElem? h1)
    exact ⟨v, h1, h2.1.fr hf hm, fun g hg => (h2.2 g hg).fr hf (hm g hg)⟩⟩
/-- a session whose blocks are of F -/
structure SessF (w : World) (B : Nat) (F : Nat → Prop) (p m : Nat) (vq : Value) (S : SS) : Prop where
  s : SessAt w B p m vq S
  fp : F p
  fm : F m
  fq : ∀ g, vq.ownBlock = some g → F g
  fe : ∀ n qs, w.ownsRow B 41 1 vq n qs → ∀ u ∈ qs, ∀ g, u.ownBlock = some g → F g
  lt : ∀ k, F k → B ≤ k ∧ k < w.heap.size
theorem SessF.other (h : SessF w B F p m vq S) (hf : Fr T w w') (hd : ∀ k, F k → ¬ T k) : SessF w' B F p m vq S := by
  obtain ⟨qs, r1, r2⟩ := h.s.row
  have r1' := owns_fr r1 hf (fun g hg => hd g (h.fq g hg))
  refine ⟨⟨(hf.block p h.s.lt (hd p h.fp)).trans h.s.blk, ⟨qs, r1', r2.fr2 hf (fun u hu g hg => hd g (h.fe _ qs r1 u hu g hg))⟩, h.s.map.fr hf (hd m h.fm), h.s.bp, h.s.bm, h.s.sq, h.s.sw⟩, h.fp, h.fm, h.fq, fun n qs' hq u hu g hg => ?_, fun k hk => ⟨(h.lt k hk).1, Nat.lt_of_lt_of_le (h.lt k hk).2 hf.size⟩⟩
  obtain ⟨_, rfl⟩ := own_unique r1' hq
  exact h.fe _ qs r1 u hu g hg
theorem SessF.quiet (h : SessF w B F p m vq S) (hf : Fr (fun _ => False) w w') : SessF w' B F p m vq S := h.other hf (fun _ _ h => h)
/-- a field or the map turned -/
theorem SessF.turn (h : SessF w B F p m vq S) (hs : SessAt w' B p m vq S') (hf : Fr (fun i => i = p ∨ i = m) w w') : SessF w' B F p m vq S' := by
  obtain ⟨qs, r1, r2⟩ := h.s.row
  have r1' := owns_fr r1 hf (fun g hg e => e.elim (fun e => h.s.pq (by rw [hg]; exact congrArg some e)) (fun e => h.s.mq (by rw [hg]; exact congrArg some e)))
  refine ⟨hs, h.fp, h.fm, h.fq, fun n qs' hq u hu g hg => ?_, fun k hk => ⟨(h.lt k hk).1, Nat.lt_of_lt_of_le (h.lt k hk).2 hf.size⟩⟩
  obtain ⟨_, rfl⟩ := own_unique r1' hq
  exact h.fe _ qs r1 u hu g hg
theorem SessF.ended (h : SessF w B F p m vq S) (hs : SessAt w' B p m (.slice none 0 0) S') (hf : Fr (fun i => i = p ∨ i = m) w w') (hq : S'.q = []) : SessF w' B F p m (.slice none 0 0) S' := by
  refine ⟨hs, h.fp, h.fm, fun g hg => (by cases hg), fun n qs' hr u hu g hg => ?_, fun k hk => ⟨(h.lt k hk).1, Nat.lt_of_lt_of_le (h.lt k hk).2 hf.size⟩⟩
  obtain ⟨_, rfl⟩ := own_unique (World.ownsRow_nil w' B 41 1) hr
  cases hu
/-- new blocks too -/
def Grew (F : Nat → Prop) (w w' : World) (k : Nat) : Prop := F k ∨ w.heap.size ≤ k ∧ k < w'.heap.size
theorem SessF.queued (h : SessF w B F p m vq S) (hB : B ≤ w.heap.size) {e : Ending} (hq : QPost w B p m vq S' e w') : ∃ vq', e = .returned (.int .i64 0) ∧ SessF w' B (Grew F w w') p m vq' S' ∧ Fr F w w' := by
  obtain ⟨vq', he, hs, hat, hf, n, qs, nv, r1, r2, hnv⟩ := hq
  have hlt : ∀ g, vq'.ownBlock = some g → g < w'.heap.size := fun g hg => (own_blk r2 hg).2.1
  refine ⟨vq', he, ⟨hs, .inl h.fp, .inl h.fm, fun g hg => (hat g hg).elim (fun e => .inl (h.fq g e)) (fun e => .inr ⟨e, hlt g hg⟩), fun n' qs' hr u hu g hg => ?_, fun k hk => ?_⟩, hf.mono (fun i hi _ => hi.elim (fun e => by rw [e]; exact h.fp) (fun e => h.fq i e))⟩
  · obtain ⟨_, rfl⟩ := own_unique r2 hr
    rcases List.mem_append.1 hu with hu | hu
    · exact .inl (h.fe n qs r1 u hu g hg)
    · rw [List.mem_singleton.1 hu] at hg
      obtain ⟨qs2, r3, r4⟩ := hs.row
      obtain ⟨_, rfl⟩ := own_unique r2 r3
      have hi : (qs ++ [nv])[qs.length]? = some nv := by rw [List.getElem?_append_right (Nat.le_refl _), Nat.sub_self]; rfl
      have hl : qs.length < S'.q.length := by rw [← r4.1]; simp
      obtain ⟨v2, hv2, htx⟩ := r4.2 qs.length _ (List.getElem?_eq_getElem hl)
      rw [hi] at hv2
      cases hv2
      exact .inr ⟨hnv g hg, (htx.2 g hg).lt⟩
  · rcases hk with hk | hk
    · exact ⟨(h.lt k hk).1, Nat.lt_of_lt_of_le (h.lt k hk).2 hf.size⟩
    · exact ⟨Nat.le_trans hB hk.1, hk.2⟩
theorem sessF_new {e : Ending} (h : NewPost w e w') : ∃ p m, e = .returned (.pointer (some ⟨p, 0, none⟩)) ∧ SessF w' w.heap.size (fun k => w.heap.size ≤ k ∧ k < w'.heap.size) p m (.slice none 0 0) ⟨false, false, false, [], []⟩ ∧ Below w.heap.size w w' := by
  obtain ⟨p, m, he, hs, hb⟩ := h
  refine ⟨p, m, he, ⟨hs, ⟨hs.bp, hs.lt⟩, ⟨hs.bm, hs.map.lt⟩, fun g hg => (by cases hg), fun n qs' hr u hu g hg => ?_, fun k hk => hk⟩, hb⟩
  obtain ⟨_, rfl⟩ := own_unique (World.ownsRow_nil w' w.heap.size 41 1) hr
  cases hu
/-- an elder base -/
theorem SessF.base {B' : Nat} (h : SessF w B F p m vq S) (hB : B' ≤ B) : SessF w B' F p m vq S := by
  obtain ⟨qs, r1, r2⟩ := h.s.row
  have ow : ∀ {n : Nat} {xs : List Value}, w.ownsRow B 41 1 vq n xs → w.ownsRow B' 41 1 vq n xs := fun {n xs} hr => by
    rcases hr with ⟨h1, h2 | ⟨g, cap, cur, he, hb, rest⟩⟩
    · exact ⟨h1, .inl h2⟩
    · exact ⟨h1, .inr ⟨g, cap, cur, he, Nat.le_trans hB hb, rest⟩⟩
  refine ⟨⟨h.s.blk, ⟨qs, ow r1, r2⟩, h.s.map, Nat.le_trans hB h.s.bp, Nat.le_trans hB h.s.bm, h.s.sq, h.s.sw⟩, h.fp, h.fm, h.fq, fun n qs' hr u hu g hg => ?_, fun k hk => ⟨Nat.le_trans hB (h.lt k hk).1, (h.lt k hk).2⟩⟩
  obtain ⟨_, rfl⟩ := own_unique (ow r1) hr
  exact h.fe _ qs r1 u hu g hg
end
end Go.Proofs.Ytpcjogmikgfgdaa
