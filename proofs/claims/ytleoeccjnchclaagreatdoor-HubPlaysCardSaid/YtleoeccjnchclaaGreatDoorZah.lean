/- Maps, by kinds of keys and of elements: what they hold, as a list, and what a look-up, a store, a deletion, len and a range make of it. No condition but sizes. -/
import Derived.Test.YtleoeccjnchclaaGreatDoorProg
import Derived.Test.YtleoeccjnchclaaGreatDoorZac
import Derived.Maps.OwnSet
import Derived.Maps.RangeWalk
import Derived.Sort.KeysCollected
namespace Go.Proofs.YtleoeccjnchclaaGreatDoor
open Go.RowKit
section lkp
variable {κ α : Type} [DecidableEq κ]
/-- what stands under a key -/
def lkp (k : κ) : List (κ × α) → Option α
  | [] => none
  | x :: l => if x.1 = k then some x.2 else lkp k l
theorem look_none {k : κ} {l : List (κ × α)} : lkp k l = none ↔ ∀ x ∈ l, x.1 ≠ k := by
  induction l with
  | nil => simp [lkp]
  | cons a l ih =>
    unfold lkp
    by_cases h : a.1 = k
    · simp [h]
    · simp [h, ih]
theorem look_mem {k : κ} {a : α} {l : List (κ × α)} (h : lkp k l = some a) : (k, a) ∈ l := by
  induction l with
  | nil => cases h
  | cons x l ih =>
    unfold lkp at h
    split at h
    · rename_i hx
      cases h
      rw [← hx]
      exact List.mem_cons_self ..
    · exact List.mem_cons_of_mem _ (ih h)
theorem look_of {k : κ} {a : α} {l : List (κ × α)} (hn : (l.map (·.1)).Nodup) (h : (k, a) ∈ l) : lkp k l = some a := by
  induction l with
  | nil => cases h
  | cons x l ih =>
    rw [List.map_cons, List.nodup_cons] at hn
    unfold lkp
    rcases List.mem_cons.1 h with rfl | h
    · rw [if_pos rfl]
    · rw [if_neg (fun e => hn.1 (by rw [e]; exact List.mem_map.2 ⟨_, h, rfl⟩))]
      exact ih hn.2 h
theorem look_snoc {k k' : κ} {a : α} {l : List (κ × α)} (h : lkp k l = none) : lkp k' (l ++ [(k, a)]) = if k' = k then some a else lkp k' l := by
  induction l with
  | nil =>
    show (if k = k' then some a else none) = _
    by_cases e : k' = k
    · rw [if_pos e, if_pos e.symm]
    · rw [if_neg e, if_neg (fun h => e h.symm)]; rfl
  | cons x l ih =>
    have hx : x.1 ≠ k := look_none.1 h x (List.mem_cons_self ..)
    have hl : lkp k l = none := look_none.2 fun y hy => look_none.1 h y (List.mem_cons_of_mem _ hy)
    show (if x.1 = k' then some x.2 else lkp k' (l ++ [(k, a)])) = if k' = k then some a else if x.1 = k' then some x.2 else lkp k' l
    by_cases e : x.1 = k'
    · rw [if_pos e, if_pos e, if_neg (fun h => hx (e.trans h))]
    · rw [if_neg e, if_neg e, ih hl]
theorem look_drop {k k' : κ} {l : List (κ × α)} : lkp k' (l.filter fun x => decide (x.1 ≠ k)) = if k' = k then none else lkp k' l := by
  induction l with
  | nil => by_cases e : k' = k <;> simp [lkp, e]
  | cons x l ih =>
    by_cases hx : x.1 = k
    · rw [List.filter_cons, if_neg (by simpa using hx), ih]
      by_cases e : k' = k
      · rw [if_pos e, if_pos e]
      · rw [if_neg e, if_neg e]
        show _ = if x.1 = k' then some x.2 else lkp k' l
        rw [if_neg (fun h => e (h.symm.trans hx))]
    · rw [List.filter_cons, if_pos (by simpa using hx)]
      show (if x.1 = k' then some x.2 else lkp k' (l.filter fun x => decide (x.1 ≠ k))) = if k' = k then none else if x.1 = k' then some x.2 else lkp k' l
      rw [ih]
      by_cases e : x.1 = k'
      · rw [if_pos e, if_pos e, if_neg (fun h => hx (e.trans h))]
      · rw [if_neg e, if_neg e]
theorem drop_len {k : κ} {l : List (κ × α)} (hn : (l.map (·.1)).Nodup) : (l.filter fun x => decide (x.1 ≠ k)).length + (if (lkp k l).isSome then 1 else 0) = l.length := by
  induction l with
  | nil => rfl
  | cons x l ih =>
    rw [List.map_cons, List.nodup_cons] at hn
    by_cases hx : x.1 = k
    · have h0 : lkp k l = none := look_none.2 fun y hy e => hn.1 (by rw [hx, ← e]; exact List.mem_map.2 ⟨_, hy, rfl⟩)
      have h1 := ih hn.2
      rw [h0] at h1
      rw [List.filter_cons, if_neg (by simpa using hx)]
      show _ + (if (if x.1 = k then some x.2 else lkp k l).isSome then 1 else 0) = _
      rw [if_pos hx, List.length_cons]
      simp only [Option.isSome_some, if_true, Option.isSome_none, Bool.false_eq_true, if_false] at h1 ⊢
      omega
    · have h1 := ih hn.2
      rw [List.filter_cons, if_pos (by simpa using hx), List.length_cons, List.length_cons]
      show _ + (if (if x.1 = k then some x.2 else lkp k l).isSome then 1 else 0) = _
      rw [if_neg hx]
      omega
end lkp
/-- a kind of keys -/
structure KK (κ : Type) where
  tid : TypeId
  val : κ → Value
  kl : κ → Lit
  ok : κ → Prop
/-- its laws -/
structure KL {κ : Type} (K : KK κ) : Prop where
  law : Maps.Keyed Tryz.prog K.tid
  inj : ∀ a b, K.kl a = K.kl b → a = b
  key : ∀ a, K.ok a → keyOf Tryz.prog K.tid (K.val a) = some (K.kl a)
  inv : ∀ v l, keyOf Tryz.prog K.tid v = some l → ∃ a, v = K.val a ∧ l = K.kl a ∧ K.ok a
  lit : ∀ a, WideAt.IsKeyLit (K.kl a)
/-- a kind of elements -/
structure EK (α : Type) where
  tid : TypeId
  R : Value → Option (DataW Unit × List MemPlace)
  val : α → Value
  dat : α → DataW Unit
  zv : Value
  zd : DataW Unit
/-- its laws -/
structure EL {α : Type} (E : EK α) : Prop where
  zero : ∀ w, (zeroValue E.tid).run Tryz.prog w = .ok E.zv w
  rz : ∃ ps, E.R E.zv = some (E.zd, ps)
  rm : ∀ a, ∃ ps, E.R (E.val a) = some (E.dat a, ps)
  invz : ∀ v ps, E.R v = some (E.zd, ps) → v = E.zv
  inv : ∀ a v ps, E.R v = some (E.dat a, ps) → v = E.val a
section
variable {κ α : Type} [DecidableEq κ] {K : KK κ} {E : EK α}
/-- a map's datum holds what the list says -/
structure MG (K : KK κ) (E : EK α) (D : DataW Unit) (L : List (κ × α)) : Prop where
  at_ : ∀ k, D.atKey (K.kl k) E.zd = ((lkp k L).map E.dat).getD E.zd
  has : ∀ k, Maps.has D (K.kl k) = (lkp k L).isSome
  size : Maps.size D = L.length
  nodup : (L.map (·.1)).Nodup
theorem mg_nil : MG K E (.map []) [] := ⟨fun _ => rfl, fun _ => rfl, rfl, List.nodup_nil⟩
theorem MG.put (hK : KL K) {D : DataW Unit} {L : List (κ × α)} (h : MG K E D L) (hD : Maps.Tidy D) {k : κ} (hk : lkp k L = none) (a : α) : MG K E (D.put (K.kl k) (E.dat a)) (L ++ [(k, a)]) := by
  refine ⟨fun x => ?_, fun x => ?_, ?_, ?_⟩
  · rw [look_snoc hk]
    by_cases e : x = k
    · subst e
      rw [if_pos rfl, Maps.atKey_put_same hD.isMap (hK.lit x)]
      rfl
    · rw [if_neg e, Maps.atKey_put_other (fun h => e (hK.inj _ _ h)), h.at_]
  · rw [look_snoc hk]
    by_cases e : x = k
    · subst e
      rw [if_pos rfl, Maps.has_put_same hD.isMap (hK.lit x)]
      rfl
    · rw [if_neg e, Maps.has_put_other (fun h => e (hK.inj _ _ h)), h.has]
  · rw [Maps.size_put hD, h.has, h.size, hk, List.length_append]
    rfl
  · rw [List.map_append]
    refine List.nodup_append.2 ⟨h.nodup, by simp, fun a ha b hb e => ?_⟩
    rw [List.map_singleton, List.mem_singleton] at hb
    obtain ⟨y, hy, rfl⟩ := List.mem_map.1 ha
    exact look_none.1 hk y hy (e.trans hb)
theorem MG.putSame (hK : KL K) {D : DataW Unit} {L : List (κ × α)} (h : MG K E D L) (hD : Maps.Tidy D) {k : κ} {a : α} (hk : lkp k L = some a) : MG K E (D.put (K.kl k) (E.dat a)) L := by
  refine ⟨fun x => ?_, fun x => ?_, ?_, h.nodup⟩
  · by_cases e : x = k
    · subst e
      rw [Maps.atKey_put_same hD.isMap (hK.lit x), hk]
      rfl
    · rw [Maps.atKey_put_other (fun h => e (hK.inj _ _ h)), h.at_]
  · by_cases e : x = k
    · subst e
      rw [Maps.has_put_same hD.isMap (hK.lit x), hk]
      rfl
    · rw [Maps.has_put_other (fun h => e (hK.inj _ _ h)), h.has]
  · rw [Maps.size_put hD, h.has, h.size, hk]
    rfl
theorem MG.del (hK : KL K) {D : DataW Unit} {L : List (κ × α)} (h : MG K E D L) (hD : Maps.Tidy D) (k : κ) : MG K E (D.del (K.kl k)) (L.filter fun x => decide (x.1 ≠ k)) := by
  refine ⟨fun x => ?_, fun x => ?_, ?_, ?_⟩
  · rw [look_drop]
    by_cases e : x = k
    · subst e
      rw [if_pos rfl, Maps.atKey_del_same]
      rfl
    · rw [if_neg e, Maps.atKey_del_other (fun h => e (hK.inj _ _ h)), h.at_]
  · rw [look_drop]
    by_cases e : x = k
    · subst e
      rw [if_pos rfl, Maps.has_del_same]
      rfl
    · rw [if_neg e, Maps.has_del_other (fun h => e (hK.inj _ _ h)), h.has]
  · have h1 := Maps.size_del (k := K.kl k) hD
    have h2 := drop_len (k := k) h.nodup
    rw [h.has, h.size] at h1
    omega
  · exact (List.Sublist.map _ List.filter_sublist).nodup h.nodup
/-- block m is a map that holds what the list says -/
def MAt (K : KK κ) (E : EK α) (w : World) (m : Nat) (L : List (κ × α)) : Prop := ∃ D : DataW Unit, w.ownsMap Tryz.prog K.tid E.R m L.length D ∧ MG K E D L
theorem ownsMap_tight {P : Program} {k : TypeId} {R : Value → Option (DataW Unit × List MemPlace)} {w : World} {b n : Nat} {D : DataW Unit} (h : w.ownsMap P k R b n D) : w.ownsMap P k R b (Maps.size D) D := by
  obtain ⟨es, clock, hb, F, _, rfl⟩ := h
  exact ⟨es, clock, hb, F, by rw [Maps.size_eq, length_sorted]; simp, rfl⟩
variable {w w' : World} {m : Nat} {L : List (κ × α)}
theorem MAt.lt (h : MAt K E w m L) : m < w.heap.size := by obtain ⟨D, h1, _⟩ := h; exact h1.lt
theorem MAt.nodup (h : MAt K E w m L) : (L.map (·.1)).Nodup := by obtain ⟨D, _, h2⟩ := h; exact h2.nodup
theorem MAt.isMap (h : MAt K E w m L) : ∃ es clock, w.heap[m]? = some (.map es clock) := by obtain ⟨D, ⟨es, clock, hb, _⟩, _⟩ := h; exact ⟨es, clock, hb⟩
theorem MAt.fr {T : Nat → Prop} (h : MAt K E w m L) (hf : Fr T w w') (hT : ¬ T m) : MAt K E w' m L := by
  have hlt := h.lt
  obtain ⟨D, ⟨es, clock, hb, r⟩, h2⟩ := h
  exact ⟨D, ⟨es, clock, (hf.block m hlt hT).trans hb, r⟩, h2⟩
theorem mAt_made (w : World) : MAt K E (w.alloc (.map #[] 0)) w.heap.size [] := ⟨.map [], World.ownsMap_made w _ _ _, mg_nil⟩
/-- what a look-up tells -/
def lookV (E : EK α) (k : κ) (L : List (κ × α)) : Value := ((lkp k L).map E.val).getD E.zv
theorem val_of (hE : EL E) {o : Option α} {v : Value} {ps : List MemPlace} (h : E.R v = some ((o.map E.dat).getD E.zd, ps)) : v = (o.map E.val).getD E.zv := by
  cases o with
  | none => exact hE.invz v ps h
  | some a => exact hE.inv a v ps h
variable (hK : KL K) (hE : EL E) {t : TypeId} (ht : Tryz.prog.underlying t = some (.map K.tid E.tid))
include hK hE ht
theorem MAt.look (h : MAt K E w m L) (k : κ) (hk : K.ok k) : (Instr.lookup t (.map (some m)) (K.val k) false).run Tryz.prog w = .ok (lookV E k L) w := by
  obtain ⟨D, h1, h2⟩ := h
  obtain ⟨zp, hz⟩ := hE.rz
  obtain ⟨v, ps, hrun, hv⟩ := h1.lookup hK.law ht (hE.zero w) hz (hK.key k hk)
  rw [h2.at_] at hv
  rw [hrun, val_of hE hv]
  rfl
theorem MAt.lookOk (h : MAt K E w m L) (k : κ) (hk : K.ok k) : (Instr.lookup t (.map (some m)) (K.val k) true).run Tryz.prog w = .ok (.tuple #[lookV E k L, .bool (lkp k L).isSome]) w := by
  obtain ⟨D, h1, h2⟩ := h
  obtain ⟨zp, hz⟩ := hE.rz
  obtain ⟨v, ps, hrun, hv⟩ := h1.look_ok hK.law ht (hE.zero w) hz (hK.key k hk)
  rw [h2.at_] at hv
  rw [hrun, val_of hE hv, h2.has]
  rfl
omit [DecidableEq κ] in
theorem look_nilM (c : Bool) (k : κ) (hk : K.ok k) : (Instr.lookup t (.map none) (K.val k) c).run Tryz.prog w = .ok (if c then .tuple #[E.zv, .bool false] else E.zv) w :=
  Maps.look_nil c hK.law ht (hE.zero w) (hK.key k hk)
theorem MAt.put (h : MAt K E w m L) (k : κ) (hk : K.ok k) (hn : lkp k L = none) (hl : L.length < maxLen) (a : α) :
    ∃ w', (Instr.mapUpdate t (.map (some m)) (K.val k) (E.val a)).run Tryz.prog w = .ok () w' ∧ MAt K E w' m (L ++ [(k, a)]) ∧ Fr (fun i => i = m) w w' := by
  obtain ⟨D, h1, h2⟩ := h
  obtain ⟨ps, hp⟩ := hE.rm a
  obtain ⟨w', hrun, h3, h4⟩ := h1.update hK.law ht hl (hK.key k hk) hp
  exact ⟨w', hrun, ⟨_, by rw [List.length_append]; exact h3, h2.put hK (h1.tidy hK.law) hn a⟩, (Fr.of_grownBy h4).mono (fun i e _ => (Option.some.inj e).symm)⟩
theorem MAt.putSame (h : MAt K E w m L) (k : κ) (hk : K.ok k) {a : α} (hn : lkp k L = some a) (hl : L.length < maxLen) :
    ∃ w', (Instr.mapUpdate t (.map (some m)) (K.val k) (E.val a)).run Tryz.prog w = .ok () w' ∧ MAt K E w' m L ∧ Fr (fun i => i = m) w w' := by
  obtain ⟨D, h1, h2⟩ := h
  obtain ⟨ps, hp⟩ := hE.rm a
  obtain ⟨w', hrun, h3, h4⟩ := h1.update hK.law ht hl (hK.key k hk) hp
  have h5 := h2.putSame hK (h1.tidy hK.law) hn
  have h6 := ownsMap_tight h3
  rw [h5.size] at h6
  exact ⟨w', hrun, ⟨_, h6, h5⟩, (Fr.of_grownBy h4).mono (fun i e _ => (Option.some.inj e).symm)⟩
omit hE in
theorem MAt.drop (h : MAt K E w m L) (k : κ) (hk : K.ok k) :
    ∃ w', (∀ ty, (Builtin.delete_ #[t, K.tid] ty #[.map (some m), K.val k]).run Tryz.prog w = .ok (.tuple #[]) w') ∧ MAt K E w' m (L.filter fun x => decide (x.1 ≠ k)) ∧ Fr (fun i => i = m) w w' := by
  obtain ⟨D, h1, h2⟩ := h
  obtain ⟨w', hrun, h3, h4⟩ := h1.drop hK.law ht (hK.key k hk) 0
  have h5 := h2.del hK (h1.tidy hK.law) k
  have h6 := ownsMap_tight h3
  rw [h5.size] at h6
  refine ⟨w', fun ty => ?_, ⟨_, h6, h5⟩, (Fr.of_grownBy h4.grown).mono (fun i e _ => (Option.some.inj e).symm)⟩
  obtain ⟨w2, hr2, _⟩ := h1.drop hK.law ht (hK.key k hk) ty
  exact hrun
omit [DecidableEq κ] hE in
theorem drop_nilM (k : κ) (hk : K.ok k) (ty : TypeId) : (Builtin.delete_ #[t, K.tid] ty #[.map none, K.val k]).run Tryz.prog w = .ok (.tuple #[]) w := Maps.drop_nil hK.law ht (hK.key k hk) ty
omit hK hE in
theorem MAt.len (h : MAt K E w m L) (ty : TypeId) : (Builtin.len_ #[t] ty #[.map (some m)]).run Tryz.prog w = .ok (.int .i64 L.length) w := by
  obtain ⟨D, h1, h2⟩ := h
  rw [h1.len ht ty, h2.size]
omit [DecidableEq κ] hK hE in
theorem len_nilM (ty : TypeId) : (Builtin.len_ #[t] ty #[.map none]).run Tryz.prog w = .ok (.int .i64 0) w := Maps.len_nil ht ty
end
end Go.Proofs.YtleoeccjnchclaaGreatDoor
