/- The kinds of maps that a hub has: under texts and under whole numbers; sets, and maps of maps. No condition but sizes. -/
import Derived.Test.YtleoeccjnchclaaGreatDoorZah
import Derived.Test.YtleoeccjnchclaaGreatDoorZai
namespace Go.Proofs.YtleoeccjnchclaaGreatDoor
open Go.RowKit
theorem bytes_ext {a b : ByteArray} (h : a.data.toList = b.data.toList) : a = b := by
  cases a; cases b
  simp only [ByteArray.mk.injEq]
  exact Array.toList_inj.1 h
/-- texts -/
def kS : KK ByteArray := ⟨9, .string, fun s => .string s.data.toList, fun s => s.size ≤ maxLen⟩
theorem kS_ok : KL kS where
  law := Maps.string_keyed Tryz.underlying9
  inj a b h := by
    injection h with h
    exact bytes_ext h
  key a ha := WideMaps.keyOf_string_mk Tryz.underlying9 ha
  inv v l h := by
    obtain ⟨x, rfl, rfl, hx⟩ := Maps.keyOf_str Tryz.underlying9 h
    exact ⟨⟨x.toArray⟩, rfl, rfl, by show x.toArray.size ≤ _; simpa using hx⟩
  lit a := trivial
/-- whole numbers -/
def kI : KK Int := ⟨3, .int .i64, .int .i64, fun a => (Lit.int .i64 a).wf = true⟩
theorem kI_ok : KL kI where
  law := Maps.int_keyed Tryz.underlying3
  inj a b h := by
    injection h with _ h
  key a ha := Maps.keyOf_int_mk Tryz.underlying3 ha
  inv v l h := by
    obtain ⟨x, rfl, rfl, hx⟩ := Maps.keyOf_int_inv Tryz.underlying3 h
    exact ⟨x, rfl, rfl, hx⟩
  lit a := trivial
/-- nothing (a set) -/
def eU : EK Unit := ⟨62, unitElem, fun _ => .agg #[], fun _ => .agg [], .agg #[], .agg []⟩
theorem eU_ok : EL eU where
  zero w := by kernel_rfl
  rz := ⟨[], unitElem_mk⟩
  rm _ := ⟨[], unitElem_mk⟩
  invz v ps h := (unitElem_inv h).1
  inv _ v ps h := (unitElem_inv h).1
/-- a map's value, read by its block -/
def refR : Value → Option (DataW Unit × List MemPlace)
  | .map none => some (.nil, [])
  | .map (some m) => some (.lit (.int .i64 m), [])
  | _ => none
theorem refR_nil {v : Value} {ps : List MemPlace} (h : refR v = some (.nil, ps)) : v = .map none := by
  unfold refR at h
  split at h
  · rfl
  · injection h with h
    injection h with h _
    cases h
  · cases h
theorem refR_some {v : Value} {m : Nat} {ps : List MemPlace} (h : refR v = some (.lit (.int .i64 m), ps)) : v = .map (some m) := by
  unfold refR at h
  split at h
  · injection h with h
    injection h with h _
    cases h
  · rename_i m'
    injection h with h
    injection h with h _
    injection h with h
    injection h with _ h
    have : m' = m := by omega
    rw [this]
  · cases h
/-- sets of names -/
def eN : EK Nat := ⟨65, refR, fun m => .map (some m), fun m => .lit (.int .i64 m), .map none, .nil⟩
theorem eN_ok : EL eN where
  zero w := by kernel_rfl
  rz := ⟨[], rfl⟩
  rm _ := ⟨[], rfl⟩
  invz v ps h := refR_nil h
  inv _ v ps h := refR_some h
/-- sets of sessions -/
def eM : EK Nat := ⟨61, refR, fun m => .map (some m), fun m => .lit (.int .i64 m), .map none, .nil⟩
theorem eM_ok : EL eM where
  zero w := by kernel_rfl
  rz := ⟨[], rfl⟩
  rm _ := ⟨[], rfl⟩
  invz v ps h := refR_nil h
  inv _ v ps h := refR_some h
theorem tSU : Tryz.prog.underlying 64 = some (.map kS.tid eU.tid) := Tryz.underlying64
theorem tN : Tryz.prog.underlying 65 = some (.map kS.tid eU.tid) := Tryz.underlying65
theorem tIU : Tryz.prog.underlying 61 = some (.map kI.tid eU.tid) := Tryz.underlying61
theorem tSM : Tryz.prog.underlying 31 = some (.map kS.tid eM.tid) := Tryz.underlying31
theorem tIN : Tryz.prog.underlying 32 = some (.map kI.tid eN.tid) := Tryz.underlying32
section
variable {κ α : Type} [DecidableEq κ] {K : KK κ} {E : EK α}
/-- the keys that have come so far -/
def Coll (K : KK κ) (D : DataW Unit) (left : Lit → Bool) (ss : List κ) : Prop := ss.Nodup ∧ ∀ k, k ∈ ss ↔ (Maps.has D (K.kl k) = true ∧ left (K.kl k) = false)
omit [DecidableEq κ] in
theorem Coll.start (D : DataW Unit) : Coll K D (Maps.has D) [] := ⟨List.nodup_nil, fun k => by
  constructor
  · intro h; cases h
  · rintro ⟨h1, h2⟩; rw [h1] at h2; cases h2⟩
theorem Coll.step (hK : KL K) {D : DataW Unit} {left : Lit → Bool} {ss : List κ} (h : Coll K D left ss) {x : κ} (hl : left (K.kl x) = true) {y : DataW Unit} (hat : ∀ zd, D.atKey (K.kl x) zd = y) :
    Coll K D (fun z => left z && !z.sameKey (K.kl x)) (ss ++ [x]) := by
  have hx : x ∉ ss := fun hm => by rw [((h.2 x).1 hm).2] at hl; cases hl
  refine ⟨List.nodup_append.2 ⟨h.1, by simp, fun a ha b hb e => hx (by rw [← List.mem_singleton.1 hb, ← e]; exact ha)⟩, fun k => ?_⟩
  rw [List.mem_append, List.mem_singleton, h.2]
  by_cases e : k = x
  · subst e
    refine ⟨fun _ => ⟨Maps.has_true_of_atKey hat, ?_⟩, fun _ => .inr rfl⟩
    show (left (K.kl k) && !(K.kl k).sameKey (K.kl k)) = false
    rw [WideAt.sameKey_self (hK.lit k)]
    simp
  · have hs : (K.kl k).sameKey (K.kl x) = false := Maps.sameKey_ne (fun h => e (hK.inj _ _ h))
    show _ ↔ _ ∧ (left (K.kl k) && !(K.kl k).sameKey (K.kl x)) = false
    rw [hs]
    simp [e]
theorem Coll.done {D : DataW Unit} {left : Lit → Bool} {ss : List κ} {L : List (κ × α)} (h : Coll K D left ss) (hl : ∀ kl, left kl = false) (hm : MG K E D L) : ss.Perm (L.map (·.1)) := by
  refine (List.perm_ext_iff_of_nodup h.1 hm.nodup).2 fun k => ?_
  rw [h.2, hl, hm.has, List.mem_map]
  constructor
  · rintro ⟨h1, _⟩
    obtain ⟨a, ha⟩ := Option.isSome_iff_exists.1 h1
    exact ⟨_, look_mem ha, rfl⟩
  · rintro ⟨x, hx, rfl⟩
    exact ⟨by rw [look_of hm.nodup (show (x.1, x.2) ∈ L from hx)]; rfl, rfl⟩
end
theorem sortS_of {l l' : List ByteArray} (h : l.Perm l') (hn : l.Nodup) : sortS l = sortS l' :=
  ltS_one ((sortS_perm l).trans (h.trans (sortS_perm l').symm)) (sortS_rises hn) (sortS_rises (h.nodup_iff.1 hn))
theorem sortI_of {l l' : List Int} (h : l.Perm l') (hn : l.Nodup) : sortI l = sortI l' :=
  ltI_one ((sortI_perm l).trans (h.trans (sortI_perm l').symm)) (sortI_rises hn) (sortI_rises (h.nodup_iff.1 hn))
theorem info_str : (Tryz.prog.info? 9).map (fun i => (i.zero, i.size, i.bytes)) = some (some (.string ⟨#[]⟩), 1, 16) := by kernel_rfl
theorem info_int : (Tryz.prog.info? 3).map (fun i => (i.zero, i.size, i.bytes)) = some (some (.int .i64 0), 1, 8) := by kernel_rfl
theorem info_parts {P : Program} {t : TypeId} {z : Value} {n b : Nat} (h : (P.info? t).map (fun i => (i.zero, i.size, i.bytes)) = some (some z, n, b)) : ∃ i, P.info? t = some i ∧ i.zero = some z ∧ i.size = n ∧ i.bytes = b := by
  obtain ⟨i, hi, h2⟩ := Option.map_eq_some_iff.1 h
  injection h2 with h3 h4
  injection h4 with h5 h6
  exact ⟨i, hi, h3, h5, h6⟩
end Go.Proofs.YtleoeccjnchclaaGreatDoor
