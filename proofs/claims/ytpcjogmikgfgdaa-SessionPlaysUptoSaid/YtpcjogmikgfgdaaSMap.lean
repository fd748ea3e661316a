/- A set of texts in a map of booleans: what it holds, and what a look-up, a store, len, clear and a range make of it. No condition. -/
import Derived.Test.YtpcjogmikgfgdaaKit
import Derived.Test.YtpcjogmikgfgdaaHash
import Derived.Maps.OwnSet
import Derived.Maps.RangeWalk
import Derived.Sort.KeysCollected
namespace Go.Proofs.Ytpcjogmikgfgdaa
open Go.RowKit

theorem bytes_ext {a b : ByteArray} (h : a.data.toList = b.data.toList) : a = b := by
  cases a; cases b
  simp only [ByteArray.mk.injEq]
  exact Array.toList_inj.1 h
theorem str_beq (a b : ByteArray) : (a.toList == b.toList) = decide (a = b) := by
  rw [Go.ByteArray.toList_eq, Go.ByteArray.toList_eq, Bool.eq_iff_iff, beq_iff_eq, decide_eq_true_eq]
  constructor
  · intro h
    cases a; cases b
    simp only [ByteArray.mk.injEq] at h ⊢
    exact Array.toList_inj.1 h
  · rintro rfl; rfl
theorem lawS : Maps.Keyed Try.prog 9 := Maps.string_keyed Try.underlying9
theorem zeroBool (w : World) : (zeroValue 4).run Try.prog w = .ok (.bool false) w := by kernel_rfl
def keyL (s : ByteArray) : Lit := .string s.data.toList
theorem keyL_inj {a b : ByteArray} (h : keyL a = keyL b) : a = b := by
  unfold keyL at h
  injection h with h
  exact bytes_ext h
theorem keyOf_keyL (s : ByteArray) (h : s.size ≤ maxLen) : keyOf Try.prog 9 (.string s) = some (keyL s) := WideMaps.keyOf_string_mk Try.underlying9 h
theorem isKey_keyL (s : ByteArray) : WideAt.IsKeyLit (keyL s) := by unfold keyL; exact trivial
def inL (k : ByteArray) (l : List ByteArray) : Bool := l.any fun x => decide (x = k)
theorem inL_iff {k : ByteArray} {l : List ByteArray} : inL k l = true ↔ k ∈ l := by
  unfold inL
  rw [List.any_eq_true]
  exact ⟨fun ⟨x, hx, e⟩ => (of_decide_eq_true e) ▸ hx, fun h => ⟨k, h, decide_eq_true rfl⟩⟩
theorem inL_no {k : ByteArray} {l : List ByteArray} (h : k ∉ l) : inL k l = false := by
  cases hh : inL k l
  · rfl
  · exact absurd (inL_iff.1 hh) h
theorem inL_snoc (x k : ByteArray) (l : List ByteArray) : inL x (l ++ [k]) = (inL x l || decide (k = x)) := by
  unfold inL
  rw [List.any_append]; simp
/-- the datum of a map that holds just the keys of a list -/
structure SetMap (D : DataW Unit) (l : List ByteArray) : Prop where
  at_ : ∀ k : ByteArray, D.atKey (keyL k) (.lit (.bool false)) = .lit (.bool (inL k l))
  has : ∀ k : ByteArray, Maps.has D (keyL k) = inL k l
  size : Maps.size D = l.length
  nodup : l.Nodup
theorem setMap_nil : SetMap (.map []) [] := ⟨fun _ => rfl, fun _ => rfl, rfl, List.nodup_nil⟩
theorem SetMap.put {D : DataW Unit} {l : List ByteArray} (h : SetMap D l) (hD : Maps.Tidy D) {k : ByteArray} (hk : k ∉ l) : SetMap (D.put (keyL k) (.lit (.bool true))) (l ++ [k]) := by
  refine ⟨fun x => ?_, fun x => ?_, ?_, ?_⟩
  · by_cases e : x = k
    · subst e
      rw [Maps.atKey_put_same hD.isMap (isKey_keyL x), inL_snoc, decide_eq_true rfl, Bool.or_true]
    · rw [Maps.atKey_put_other (fun h => e (keyL_inj h)), h.at_, inL_snoc, decide_eq_false (fun h => e h.symm), Bool.or_false]
  · by_cases e : x = k
    · subst e
      rw [Maps.has_put_same hD.isMap (isKey_keyL x), inL_snoc, decide_eq_true rfl, Bool.or_true]
    · rw [Maps.has_put_other (fun h => e (keyL_inj h)), h.has, inL_snoc, decide_eq_false (fun h => e h.symm), Bool.or_false]
  · rw [Maps.size_put hD, h.has, h.size, inL_no hk, List.length_append]
    rfl
  · exact List.nodup_append.2 ⟨h.nodup, by simp, fun a ha b hb e => hk (by rw [← List.mem_singleton.1 hb, ← e]; exact ha)⟩
noncomputable abbrev PE : Value → Option (DataW Unit × List MemPlace) := plainElem Try.prog 4
/-- block m is a map that holds just the keys of a list -/
def MapAt (w : World) (m : Nat) (l : List ByteArray) : Prop := ∃ D : DataW Unit, w.ownsMap Try.prog 9 PE m l.length D ∧ SetMap D l
theorem MapAt.lt {w : World} {m : Nat} {l : List ByteArray} (h : MapAt w m l) : m < w.heap.size := by obtain ⟨D, h1, _⟩ := h; exact h1.lt
theorem MapAt.isMap {w : World} {m : Nat} {l : List ByteArray} (h : MapAt w m l) : ∃ es clock, w.heap[m]? = some (.map es clock) := by obtain ⟨D, ⟨es, clock, hb, _⟩, _⟩ := h; exact ⟨es, clock, hb⟩
theorem MapAt.nodup {w : World} {m : Nat} {l : List ByteArray} (h : MapAt w m l) : l.Nodup := by obtain ⟨D, _, h2⟩ := h; exact h2.nodup
theorem MapAt.fr {w w' : World} {m : Nat} {l : List ByteArray} {T : Nat → Prop} (h : MapAt w m l) (hf : Fr T w w') (hT : ¬ T m) : MapAt w' m l := by
  have hlt := h.lt
  obtain ⟨D, ⟨es, clock, hb, r⟩, h2⟩ := h
  exact ⟨D, ⟨es, clock, (hf.block m hlt hT).trans hb, r⟩, h2⟩
theorem mapAt_made (w : World) : MapAt (w.alloc (.map #[] 0)) w.heap.size [] := ⟨.map [], World.ownsMap_made w _ _ _, setMap_nil⟩
theorem PE_bool {v : Value} {b : Bool} {ps : List MemPlace} (h : PE v = some (.lit (.bool b), ps)) : v = .bool b := by
  have hu := Try.underlying4
  unfold PE plainElem at h
  simp only [hu] at h
  cases v <;> simp at h
  rw [h.1]
theorem MapAt.look {w : World} {m : Nat} {l : List ByteArray} (h : MapAt w m l) (k : ByteArray) (hk : k.size ≤ maxLen) :
    (Instr.lookup 97 (.map (some m)) (.string k) false).run Try.prog w = .ok (.bool (inL k l)) w := by
  obtain ⟨D, h1, h2⟩ := h
  obtain ⟨v, ps, hrun, hv⟩ := h1.lookup lawS Try.underlying97 (zeroBool w) (plainElem_bool Try.underlying4 false) (keyOf_keyL k hk)
  rw [h2.at_] at hv
  rw [hrun, PE_bool hv]
theorem MapAt.len {w : World} {m : Nat} {l : List ByteArray} (h : MapAt w m l) (ty : TypeId) : (Builtin.len_ #[97] ty #[.map (some m)]).run Try.prog w = .ok (.int .i64 l.length) w := by
  obtain ⟨D, h1, h2⟩ := h
  rw [h1.len Try.underlying97 ty, h2.size]
theorem MapAt.put {w : World} {m : Nat} {l : List ByteArray} (h : MapAt w m l) (k : ByteArray) (hk : k.size ≤ maxLen) (hn : k ∉ l) (hl : l.length < maxLen) :
    ∃ w', (Instr.mapUpdate 97 (.map (some m)) (.string k) (.bool true)).run Try.prog w = .ok () w' ∧ MapAt w' m (l ++ [k]) ∧ Fr (fun i => i = m) w w' := by
  obtain ⟨D, h1, h2⟩ := h
  obtain ⟨w', hrun, h3, h4⟩ := h1.update lawS Try.underlying97 hl (keyOf_keyL k hk) (plainElem_bool Try.underlying4 true)
  refine ⟨w', hrun, ⟨_, by rw [List.length_append]; exact h3, h2.put (h1.tidy lawS) hn⟩, (Fr.of_grownBy h4).mono (fun i e _ => (Option.some.inj e).symm)⟩
theorem MapAt.clear {w : World} {m : Nat} {l : List ByteArray} (h : MapAt w m l) :
    ∃ w', (∀ ty, (Builtin.clear_ #[97] ty #[.map (some m)]).run Try.prog w = .ok (.tuple #[]) w') ∧ MapAt w' m [] ∧ Fr (fun i => i = m) w w' := by
  obtain ⟨D, ⟨es, clock, hb, F, hs, hD⟩, h2⟩ := h
  have hrun : ∀ ty, (Builtin.clear_ #[97] ty #[.map (some m)]).run Try.prog w = .ok (.tuple #[]) (ChangeMaps.setBlock w m (.map #[] clock)) := by
    intro ty
    simp [Builtin.clear_, run_underlying Try.underlying97, MapKept.run_getObj_map hb, MapKept.run_setObj_map _ hb, Result.andThen, ChangeMaps.setBlock]
  refine ⟨_, hrun, ⟨.map [], ⟨#[], clock, ChangeMaps.heap_setBlock_same hb _, ⟨by simp, MapKept.stamped_empty clock, by simp⟩, Nat.le_refl _, rfl⟩, setMap_nil⟩, ⟨rfl, rfl, rfl, by simp [ChangeMaps.setBlock], fun i _ hi => ChangeMaps.heap_setBlock_other hb _ hi⟩⟩
end Go.Proofs.Ytpcjogmikgfgdaa
