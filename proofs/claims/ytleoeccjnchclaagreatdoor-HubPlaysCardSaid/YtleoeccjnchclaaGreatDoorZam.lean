/- A map of sets, in memory: what a look-up, a store and a deletion make of it. No condition but sizes. -/
import Derived.Test.YtleoeccjnchclaaGreatDoorZal
import Derived.Test.YtleoeccjnchclaaGreatDoorZad
namespace Go.Proofs.YtleoeccjnchclaaGreatDoor
open Go.RowKit
/-- a set's list -/
def unL {κ : Type} (l : List κ) : List (κ × Unit) := l.map fun k => (k, ())
section
variable {κ : Type} [DecidableEq κ]
omit [DecidableEq κ] in
theorem unL_len (l : List κ) : (unL l).length = l.length := List.length_map _
omit [DecidableEq κ] in
theorem unL_snoc (l : List κ) (x : κ) : unL (l ++ [x]) = unL l ++ [(x, ())] := by simp [unL]
theorem unL_look (l : List κ) (x : κ) : lkp x (unL l) = if x ∈ l then some () else none := by
  induction l with
  | nil => rfl
  | cons a l ih =>
    show (if a = x then some () else lkp x (unL l)) = _
    rw [ih]
    by_cases e : a = x
    · subst e; simp
    · rw [if_neg e]
      by_cases h : x ∈ l
      · rw [if_pos h, if_pos (List.mem_cons_of_mem _ h)]
      · rw [if_neg h, if_neg (by rw [List.mem_cons]; rintro (e2 | e2); exact e e2.symm; exact h e2)]
theorem unL_drop (l : List κ) (x : κ) : (unL l).filter (fun y => decide (y.1 ≠ x)) = unL (l.filter fun y => decide (y ≠ x)) := by
  unfold unL
  rw [List.filter_map]
  rfl
omit [DecidableEq κ] in
theorem unL_keys (l : List κ) : (unL l).map (·.1) = l := by
  unfold unL
  rw [List.map_map]
  exact List.map_id l
end
section
variable {κ κ2 : Type} [DecidableEq κ] [DecidableEq κ2]
/-- a map of sets -/
structure TL (K : KK κ) (E : EK Nat) (K2 : KK κ2) (w : World) (m : Nat) (L : List (κ × Nat)) (f : κ → List κ2) : Prop where
  top : MAt K E w m L
  sets : ∀ x ∈ L, MAt K2 eU w x.2 (unL (f x.1))
  no : ∀ k, lkp k L = none → f k = []
  nd : (m :: L.map (·.2)).Nodup
  ok : ∀ x ∈ L, K.ok x.1
variable {K : KK κ} {E : EK Nat} {K2 : KK κ2} {w w' : World} {m : Nat} {L : List (κ × Nat)} {f g : κ → List κ2} {T : Nat → Prop}
/-- its blocks -/
def BlkT (m : Nat) (L : List (κ × Nat)) (i : Nat) : Prop := i = m ∨ ∃ x ∈ L, x.2 = i
theorem TL.lt (h : TL K E K2 w m L f) : ∀ i, BlkT m L i → i < w.heap.size := by
  rintro i (rfl | ⟨x, hx, rfl⟩)
  · exact h.top.lt
  · exact (h.sets x hx).lt
theorem TL.fr (h : TL K E K2 w m L f) (hf : Fr T w w') (hT : ∀ i, BlkT m L i → ¬ T i) : TL K E K2 w' m L f :=
  ⟨h.top.fr hf (hT m (.inl rfl)), fun x hx => (h.sets x hx).fr hf (hT _ (.inr ⟨x, hx, rfl⟩)), h.no, h.nd, h.ok⟩
theorem TL.congr (h : TL K E K2 w m L f) (e : ∀ k, f k = g k) : TL K E K2 w m L g := by
  have : f = g := funext e
  rw [← this]
  exact h
theorem TL.two {x y : κ × Nat} (h : TL K E K2 w m L f) (hx : x ∈ L) (hy : y ∈ L) (e : x.2 = y.2) : x = y := by
  have hn := (List.nodup_cons.1 h.nd).2
  obtain ⟨i, hi, rfl⟩ := List.getElem_of_mem hx
  obtain ⟨j, hj, rfl⟩ := List.getElem_of_mem hy
  have h2 : (L.map (·.2))[i]'(by rw [List.length_map]; exact hi) = (L.map (·.2))[j]'(by rw [List.length_map]; exact hj) := by rw [List.getElem_map, List.getElem_map]; exact e
  have hp := List.pairwise_iff_getElem.1 hn
  rcases Nat.lt_trichotomy i j with hij | hij | hij
  · exact absurd h2 (hp i j _ _ hij)
  · subst hij; rfl
  · exact absurd h2.symm (hp j i _ _ hij)
theorem TL.apart {x : κ × Nat} (h : TL K E K2 w m L f) (hx : x ∈ L) : x.2 ≠ m := fun e => (List.nodup_cons.1 h.nd).1 (by rw [← e]; exact List.mem_map.2 ⟨x, hx, rfl⟩)
theorem TL.nodup (h : TL K E K2 w m L f) (k : κ) : (f k).Nodup := by
  cases hk : lkp k L with
  | none => rw [h.no k hk]; exact List.nodup_nil
  | some b =>
    have h1 := (h.sets _ (look_mem hk)).nodup
    rwa [unL_keys] at h1
/-- the set's value under a key -/
theorem TL.setLen (h : TL K E K2 w m L f) {t : TypeId} (ht : Tryz.prog.underlying t = some (.map K2.tid eU.tid)) (hE : E.val = fun b => .map (some b)) (hz : E.zv = .map none) (k : κ) (ty : TypeId) :
    (Builtin.len_ #[t] ty #[lookV E k L]).run Tryz.prog w = .ok (.int .i64 (f k).length) w := by
  unfold lookV
  cases hk : lkp k L with
  | none =>
    rw [h.no k hk]
    show (Builtin.len_ #[t] ty #[E.zv]).run Tryz.prog w = _
    rw [hz]
    exact len_nilM (K := K2) (E := eU) ht ty
  | some b =>
    show (Builtin.len_ #[t] ty #[E.val b]).run Tryz.prog w = _
    rw [hE]
    have := (h.sets _ (look_mem hk)).len ht ty
    rw [unL_len] at this
    exact this
theorem TL.setHas (h : TL K E K2 w m L f) (hK2 : KL K2) {t : TypeId} (ht : Tryz.prog.underlying t = some (.map K2.tid eU.tid)) (hE : E.val = fun b => .map (some b)) (hz : E.zv = .map none) (k : κ) (x : κ2) (hx : K2.ok x) :
    (Instr.lookup t (lookV E k L) (K2.val x) true).run Tryz.prog w = .ok (.tuple #[.agg #[], .bool (decide (x ∈ f k))]) w := by
  unfold lookV
  cases hk : lkp k L with
  | none =>
    rw [h.no k hk]
    show (Instr.lookup t E.zv (K2.val x) true).run Tryz.prog w = _
    rw [hz, look_nilM hK2 eU_ok ht true x hx]
    simp [eU]
  | some b =>
    show (Instr.lookup t (E.val b) (K2.val x) true).run Tryz.prog w = _
    rw [hE]
    have h1 := (h.sets _ (look_mem hk)).lookOk hK2 eU_ok ht x hx
    unfold lookV at h1
    rw [unL_look] at h1
    rw [h1]
    by_cases hm : x ∈ f k
    · simp [hm, eU]
    · simp [hm, eU]
/-- one more in a set -/
def addF (f : κ → List κ2) (k : κ) (x : κ2) (k' : κ) : List κ2 := if k' = k then f k' ++ [x] else f k'
theorem TL.add (h : TL K E K2 w m L f) (hK2 : KL K2) {t : TypeId} (ht : Tryz.prog.underlying t = some (.map K2.tid eU.tid)) {k : κ} {b : Nat} (hk : lkp k L = some b) (x : κ2) (hx : K2.ok x) (hn : x ∉ f k) (hl : (f k).length < maxLen) :
    ∃ w', (Instr.mapUpdate t (.map (some b)) (K2.val x) (.agg #[])).run Tryz.prog w = .ok () w' ∧ TL K E K2 w' m L (addF f k x) ∧ Fr (fun i => i = b) w w' := by
  have hm := look_mem hk
  obtain ⟨w', hrun, h3, h4⟩ := (h.sets _ hm).put hK2 eU_ok ht x hx (by rw [unL_look, if_neg hn]) (by rw [unL_len]; exact hl) ()
  refine ⟨w', hrun, ⟨h.top.fr h4 (fun e => h.apart hm e.symm), fun y hy => ?_, fun k' hk' => ?_, h.nd, h.ok⟩, h4⟩
  · unfold addF
    by_cases e : y.1 = k
    · have e2 : y.2 = b := by
        have := look_of h.top.nodup (show (y.1, y.2) ∈ L from hy)
        rw [e, hk] at this
        exact (Option.some.inj this).symm
      rw [if_pos e, e2, e, unL_snoc]
      exact h3
    · rw [if_neg e]
      exact (h.sets y hy).fr h4 (fun e2 => e (by rw [h.two hy hm e2]))
  · unfold addF
    rw [if_neg (fun e => by rw [e, hk] at hk'; cases hk')]
    exact h.no k' hk'
theorem TL.addSame (h : TL K E K2 w m L f) (hK2 : KL K2) {t : TypeId} (ht : Tryz.prog.underlying t = some (.map K2.tid eU.tid)) {k : κ} {b : Nat} (hk : lkp k L = some b) (x : κ2) (hx : K2.ok x) (hn : x ∈ f k) (hl : (f k).length < maxLen) :
    ∃ w', (Instr.mapUpdate t (.map (some b)) (K2.val x) (.agg #[])).run Tryz.prog w = .ok () w' ∧ TL K E K2 w' m L f ∧ Fr (fun i => i = b) w w' := by
  have hm := look_mem hk
  obtain ⟨w', hrun, h3, h4⟩ := (h.sets _ hm).putSame hK2 eU_ok ht x hx (by rw [unL_look, if_pos hn]) (by rw [unL_len]; exact hl)
  refine ⟨w', hrun, ⟨h.top.fr h4 (fun e => h.apart hm e.symm), fun y hy => ?_, h.no, h.nd, h.ok⟩, h4⟩
  by_cases e : y.1 = k
  · have e2 : y.2 = b := by
      have := look_of h.top.nodup (show (y.1, y.2) ∈ L from hy)
      rw [e, hk] at this
      exact (Option.some.inj this).symm
    rw [e2, e]
    exact h3
  · exact (h.sets y hy).fr h4 (fun e2 => e (by rw [h.two hy hm e2]))
/-- a new set under a new key -/
theorem TL.new_ (h : TL K E K2 w m L f) (hK : KL K) (hE : EL E) {t : TypeId} (ht : Tryz.prog.underlying t = some (.map K.tid E.tid)) {k : κ} (hk : lkp k L = none) (ho : K.ok k) (hl : L.length < maxLen) :
    ∃ w', (Instr.mapUpdate t (.map (some m)) (K.val k) (E.val w.heap.size)).run Tryz.prog (w.alloc (.map #[] 0)) = .ok () w' ∧ TL K E K2 w' m (L ++ [(k, w.heap.size)]) f ∧ Fr (fun i => i = m) w w' := by
  have hf1 : Fr (fun _ => False) w (w.alloc (.map #[] 0)) := Fr.alloc _ _ _
  have h1 := h.fr hf1 (fun _ _ h => h)
  obtain ⟨w', hrun, h3, h4⟩ := h1.top.put hK hE ht k ho hk hl w.heap.size
  have hml := h.top.lt
  have hf : Fr (fun i => i = m) w w' := (hf1.mono (fun _ h _ => h.elim)).trans h4 (fun i hi _ => hi)
  refine ⟨w', hrun, ⟨h3, fun y hy => ?_, fun k' hk' => ?_, ?_, fun y hy => ?_⟩, hf⟩
  · rcases List.mem_append.1 hy with hy | hy
    · exact (h1.sets y hy).fr h4 (h.apart hy)
    · rw [List.mem_singleton] at hy
      subst hy
      rw [h.no k hk]
      exact (mAt_made w).fr h4 (by omega)
  · rw [look_snoc hk] at hk'
    by_cases e : k' = k
    · rw [if_pos e] at hk'; cases hk'
    · rw [if_neg e] at hk'; exact h.no k' hk'
  · rw [List.map_append, ← List.cons_append]
    refine List.nodup_append.2 ⟨h.nd, by simp, fun a ha b hb e => ?_⟩
    rw [List.map_singleton, List.mem_singleton] at hb
    have h5 : a < w.heap.size := h.lt a (by
      rcases List.mem_cons.1 ha with rfl | ha
      · exact .inl rfl
      · obtain ⟨y, hy, rfl⟩ := List.mem_map.1 ha; exact .inr ⟨y, hy, rfl⟩)
    dsimp only at hb
    omega
  · rcases List.mem_append.1 hy with hy | hy
    · exact h.ok y hy
    · rw [List.mem_singleton] at hy; subst hy; exact ho
/-- one less in a set -/
def delF (f : κ → List κ2) (k : κ) (x : κ2) (k' : κ) : List κ2 := if k' = k then (f k').filter (fun y => decide (y ≠ x)) else f k'
theorem TL.del (h : TL K E K2 w m L f) (hK2 : KL K2) {t : TypeId} (ht : Tryz.prog.underlying t = some (.map K2.tid eU.tid)) (hE : E.val = fun b => .map (some b)) (hz : E.zv = .map none) (k : κ) (x : κ2) (hx : K2.ok x) :
    ∃ w', (∀ ty, (Builtin.delete_ #[t, K2.tid] ty #[lookV E k L, K2.val x]).run Tryz.prog w = .ok (.tuple #[]) w') ∧ TL K E K2 w' m L (delF f k x) ∧ Fr (fun i => BlkT m L i) w w' := by
  cases hk : lkp k L with
  | none =>
    have hv : lookV E k L = .map none := by unfold lookV; rw [hk]; exact hz
    refine ⟨w, fun ty => by rw [hv]; exact drop_nilM (K := K2) (E := eU) hK2 ht x hx ty, h.congr fun k' => ?_, Fr.refl _ _⟩
    unfold delF
    by_cases e : k' = k
    · rw [if_pos e, e, h.no k hk]; rfl
    · rw [if_neg e]
  | some b =>
    have hm := look_mem hk
    have hv : lookV E k L = .map (some b) := by unfold lookV; rw [hk]; show E.val b = _; rw [hE]
    obtain ⟨w', hrun, h3, h4⟩ := (h.sets _ hm).drop hK2 ht x hx
    refine ⟨w', fun ty => by rw [hv]; exact hrun ty, ⟨h.top.fr h4 (fun e => h.apart hm e.symm), fun y hy => ?_, fun k' hk' => ?_, h.nd, h.ok⟩, h4.mono (fun i hi _ => .inr ⟨_, hm, hi.symm⟩)⟩
    · unfold delF
      by_cases e : y.1 = k
      · have e2 : y.2 = b := by
          have := look_of h.top.nodup (show (y.1, y.2) ∈ L from hy)
          rw [e, hk] at this
          exact (Option.some.inj this).symm
        rw [if_pos e, e2, e, ← unL_drop]
        exact h3
      · rw [if_neg e]
        exact (h.sets y hy).fr h4 (fun e2 => e (by rw [h.two hy hm e2]))
    · unfold delF
      rw [if_neg (fun e => by rw [e, hk] at hk'; cases hk')]
      exact h.no k' hk'
/-- a key taken away -/
def cutF (f : κ → List κ2) (k : κ) (k' : κ) : List κ2 := if k' = k then [] else f k'
theorem TL.cut (h : TL K E K2 w m L f) (hK : KL K) {t : TypeId} (ht : Tryz.prog.underlying t = some (.map K.tid E.tid)) (k : κ) (ho : K.ok k) :
    ∃ w', (∀ ty, (Builtin.delete_ #[t, K.tid] ty #[.map (some m), K.val k]).run Tryz.prog w = .ok (.tuple #[]) w') ∧ TL K E K2 w' m (L.filter fun x => decide (x.1 ≠ k)) (cutF f k) ∧ Fr (fun i => i = m) w w' := by
  obtain ⟨w', hrun, h3, h4⟩ := h.top.drop hK ht k ho
  refine ⟨w', hrun, ⟨h3, fun y hy => ?_, fun k' hk' => ?_, ?_, fun y hy => h.ok y (List.mem_filter.1 hy).1⟩, h4⟩
  · obtain ⟨hy1, hy2⟩ := List.mem_filter.1 hy
    unfold cutF
    rw [if_neg (by simpa using hy2)]
    exact (h.sets y hy1).fr h4 (h.apart hy1)
  · rw [look_drop] at hk'
    unfold cutF
    by_cases e : k' = k
    · rw [if_pos e]
    · rw [if_neg e] at hk' ⊢
      exact h.no k' hk'
  · refine List.nodup_cons.2 ⟨fun hm => ?_, (List.Sublist.map _ List.filter_sublist).nodup (List.nodup_cons.1 h.nd).2⟩
    obtain ⟨y, hy, e⟩ := List.mem_map.1 hm
    exact h.apart (List.mem_filter.1 hy).1 e
end
end Go.Proofs.YtleoeccjnchclaaGreatDoor
