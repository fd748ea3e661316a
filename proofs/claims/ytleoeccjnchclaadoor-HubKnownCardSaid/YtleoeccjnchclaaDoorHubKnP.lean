/- Plain: what the chapter's examples make of a hub. No condition. -/
import Derived.Test.YtleoeccjnchclaaDoorHubNil
namespace Go.Proofs.YtleoeccjnchclaaDoor
open Go.RowKit
theorem ls_new {fx fy : Int → List ByteArray} {s : Int} {k : ByteArray} {n : Nat} (h1 : k.size ≤ 1024) (h2 : k ∉ fx s) (hn : (fx s).length + (fy s).length = n) (h3 : n < 1024) : lsRes fx fy s k = (n + 1, 0, addF fx s k) := by
  unfold lsRes
  rw [if_neg (by omega), if_neg h2, hn, if_neg (by omega)]
theorem ls_there {fx fy : Int → List ByteArray} {s : Int} {k : ByteArray} {n : Nat} (h1 : k.size ≤ 1024) (h2 : k ∈ fx s) (hn : (fx s).length + (fy s).length = n) : lsRes fx fy s k = (n, 0, fx) := by
  unfold lsRes
  rw [if_neg (by omega), if_pos h2, hn]
theorem ls_long {fx fy : Int → List ByteArray} {s : Int} {k : ByteArray} (h1 : 1024 < k.size) : lsRes fx fy s k = (0, 2, fx) := by
  unfold lsRes
  rw [if_pos h1]
theorem ls_full {fx fy : Int → List ByteArray} {s : Int} {k : ByteArray} (h1 : k.size ≤ 1024) (h2 : k ∉ fx s) (h3 : 1024 ≤ (fx s).length + (fy s).length) : lsRes fx fy s k = (0, 4, fx) := by
  unfold lsRes
  rw [if_neg (by omega), if_neg h2, if_pos h3]
def f1 (s : Int) : List ByteArray := if s = 3 then [⟨#[97]⟩] else []
def f2 (s : Int) : List ByteArray := if s = 1 ∨ s = 3 then [⟨#[97]⟩] else []
def f3 (s : Int) : List ByteArray := if s = 1 then [⟨#[97]⟩] else []
def p1 (s : Int) : List ByteArray := if s = 3 then [⟨#[97, 42]⟩] else []
def zN (n : Nat) : ByteArray := ⟨(List.replicate n (0 : UInt8)).toArray⟩
theorem zN_size (n : Nat) : (zN n).size = n := by show (List.replicate n (0 : UInt8)).toArray.size = n; simp
def p2 (s : Int) : List ByteArray := if s = 5 then [zN 1024] else []
def nm (i : Nat) : ByteArray := ⟨#[UInt8.ofNat i, UInt8.ofNat (i / 256)]⟩
def fi (i : Nat) (s : Int) : List ByteArray := if s = 5 then (List.range i).map nm else []
theorem nm_size (i : Nat) : (nm i).size = 2 := rfl
theorem nm_inj {i j : Nat} (hi : i < 65536) (hj : j < 65536) (h : nm i = nm j) : i = j := by
  unfold nm at h
  simp only [ByteArray.mk.injEq, Array.mk.injEq, List.cons.injEq, and_true] at h
  obtain ⟨h1, h2⟩ := h
  have h1 := congrArg UInt8.toNat h1
  have h2 := congrArg UInt8.toNat h2
  simp only [UInt8.toNat_ofNat'] at h1 h2
  omega
theorem k1 : lsRes (fun _ => []) (fun _ => []) 3 ⟨#[97]⟩ = (1, 0, f1) := by
  rw [ls_new (n := 0) (by decide) (by simp) rfl (by decide)]
  refine congrArg (fun f => (1, 0, f)) (funext fun s => ?_)
  unfold addF f1
  by_cases e : s = 3 <;> simp [e]
theorem k2 : lsRes f1 (fun _ => []) 1 ⟨#[97]⟩ = (1, 0, f2) := by
  have e1 : f1 1 = [] := rfl
  rw [ls_new (n := 0) (by decide) (by rw [e1]; simp) (by rw [e1]; rfl) (by decide)]
  refine congrArg (fun f => (1, 0, f)) (funext fun s => ?_)
  unfold addF f1 f2
  by_cases e : s = 1
  · subst e; rfl
  · rw [if_neg e]; simp [e]
theorem k3 : lsRes (fun _ => []) f2 3 ⟨#[97, 42]⟩ = (2, 0, p1) := by
  rw [ls_new (n := 1) (by decide) (by simp) rfl (by decide)]
  refine congrArg (fun f => (2, 0, f)) (funext fun s => ?_)
  unfold addF p1
  by_cases e : s = 3 <;> simp [e]
theorem k4 : lsRes f2 p1 3 ⟨#[97]⟩ = (2, 0, f2) := ls_there (by decide) (by show _ ∈ [_]; simp) rfl
theorem k5 : delF f2 3 ⟨#[97]⟩ = f3 := funext fun s => by
  unfold delF f2 f3
  by_cases e : s = 3
  · subst e; rfl
  · rw [if_neg e]; simp [e]
theorem k6 : delF f3 3 ⟨#[122]⟩ = f3 := funext fun s => by
  unfold delF f3
  by_cases e : s = 3
  · subst e; rfl
  · rw [if_neg e]
theorem k7 : delF p1 3 ⟨#[97, 42]⟩ = fun _ => [] := funext fun s => by
  unfold delF p1
  by_cases e : s = 3
  · subst e; rfl
  · rw [if_neg e, if_neg e]
theorem k8 : cutF f3 1 = fun _ => [] := funext fun s => by
  unfold cutF f3
  by_cases e : s = 1
  · rw [if_pos e]
  · rw [if_neg e, if_neg e]
theorem k9 : cutF (fun _ => [] : Int → List ByteArray) 1 = fun _ => [] := funext fun s => by unfold cutF; split <;> rfl
theorem k10 : lsRes (fun _ => []) (fun _ => []) 5 (zN 1025) = (0, 2, fun _ => []) := ls_long (by rw [zN_size]; decide)
theorem k11 : lsRes (fun _ => []) (fun _ => []) 5 (zN 1024) = (1, 0, p2) := by
  rw [ls_new (n := 0) (by rw [zN_size]; decide) (by simp) rfl (by decide)]
  refine congrArg (fun f => (1, 0, f)) (funext fun s => ?_)
  unfold addF p2
  by_cases e : s = 5
  · rw [if_pos e, if_pos e]; rfl
  · rw [if_neg e, if_neg e]
theorem fi_zero : fi 0 = fun _ => [] := funext fun s => by unfold fi; split <;> rfl
theorem fi_five (i : Nat) : fi i 5 = (List.range i).map nm := by unfold fi; rw [if_pos rfl]
theorem p2_five : p2 5 = [zN 1024] := by unfold p2; rw [if_pos rfl]
theorem fi_len (i : Nat) : (fi i 5).length + (p2 5).length = i + 1 := by rw [fi_five, p2_five, List.length_map, List.length_range]; rfl
theorem k12 (i : Nat) (hi : i < 1023) : lsRes (fi i) p2 5 (nm i) = (i + 2, 0, fi (i + 1)) := by
  rw [ls_new (n := i + 1) (by rw [nm_size]; decide) ?_ (fi_len i) (by omega)]
  · refine congrArg (fun f => (i + 2, 0, f)) (funext fun s => ?_)
    unfold addF fi
    by_cases e : s = 5
    · rw [if_pos e, if_pos e, if_pos e, List.range_succ, List.map_append]; rfl
    · rw [if_neg e, if_neg e, if_neg e]
  · rw [fi_five]
    intro h
    obtain ⟨j, hj, e⟩ := List.mem_map.1 h
    have hj := List.mem_range.1 hj
    have := nm_inj (by omega) (by omega) e
    omega
theorem k13 {k : ByteArray} (hk : k.size ≤ 1023) : lsRes p2 (fi 1023) 5 k = (0, 4, p2) := by
  refine ls_full (by omega) ?_ ?_
  · rw [p2_five, List.mem_singleton]
    intro e
    have := congrArg ByteArray.size e
    rw [zN_size] at this
    omega
  · have := fi_len 1023
    omega
theorem k14 : lsRes (fi 1023) p2 5 (nm 7) = (1024, 0, fi 1023) := ls_there (by rw [nm_size]; decide) (by rw [fi_five]; exact List.mem_map.2 ⟨7, List.mem_range.2 (by decide), rfl⟩) (fi_len 1023)
theorem k15 (k : ByteArray) (hk : k.size ≤ 1024) : lsRes (fi 1023) p2 6 k = (1, 0, addF (fi 1023) 6 k) := by
  have e1 : fi 1023 6 = [] := by unfold fi; rw [if_neg (by decide)]
  have e2 : p2 6 = [] := by unfold p2; rw [if_neg (by decide)]
  exact ls_new (n := 0) hk (by rw [e1]; simp) (by rw [e1, e2]; rfl) (by decide)
theorem gm_a : gm ⟨#[97, 42]⟩ ⟨#[97]⟩ = true := by decide +kernel
theorem gm_ab : gm ⟨#[97, 42]⟩ ⟨#[97, 98]⟩ = true := by decide +kernel
theorem gm_z : gm (zN 1024) ⟨#[97]⟩ = false := by
  unfold gm
  rw [signs_plain (bl (zN 1024)) (fun c hc => ?_), means_text]
  · refine decide_eq_false fun e => ?_
    have := congrArg List.length e
    rw [bl_len, bl_len, zN_size] at this
    cases this
  · have : c = 0 := by
      have h : c ∈ (List.replicate 1024 (0 : UInt8)) := hc
      exact (List.mem_replicate.1 h).2
    rw [this]
    decide
/-- what the examples tell -/
theorem o1 : [(1 : Int), 3].flatMap (nameL f2 ⟨#[97]⟩ ⟨#[120]⟩) ++ [(1 : Int), 3].flatMap (patL p1 ⟨#[97]⟩ ⟨#[120]⟩) = [msgL 1 ⟨#[97]⟩ ⟨#[120]⟩, msgL 3 ⟨#[97]⟩ ⟨#[120]⟩, pmsgL 3 ⟨#[97, 42]⟩ ⟨#[97]⟩ ⟨#[120]⟩] := by
  have e1 : f2 1 = [⟨#[97]⟩] := rfl
  have e3 : f2 3 = [⟨#[97]⟩] := rfl
  have q1 : p1 1 = [] := rfl
  have q3 : p1 3 = [⟨#[97, 42]⟩] := rfl
  rw [List.flatMap_cons, List.flatMap_singleton, List.flatMap_cons, List.flatMap_singleton, nameL_eq (by rw [e1]; simp), nameL_eq (by rw [e3]; simp), if_pos (by rw [e1]; simp), if_pos (by rw [e3]; simp)]
  unfold patL
  have hs : sortS ([] : List ByteArray) = [] := by simp [sortS]
  have ht : sortS [(⟨#[97, 42]⟩ : ByteArray)] = [⟨#[97, 42]⟩] := List.perm_singleton.1 (sortS_perm _)
  rw [q1, q3, hs, ht, List.filter_nil, List.map_nil, List.nil_append, List.filter_cons, if_pos gm_a]
  rfl
theorem o2 : [(1 : Int), 3].flatMap (nameL f2 ⟨#[97, 98]⟩ ⟨#[121]⟩) ++ [(1 : Int), 3].flatMap (patL p1 ⟨#[97, 98]⟩ ⟨#[121]⟩) = [pmsgL 3 ⟨#[97, 42]⟩ ⟨#[97, 98]⟩ ⟨#[121]⟩] := by
  have e1 : f2 1 = [⟨#[97]⟩] := rfl
  have e3 : f2 3 = [⟨#[97]⟩] := rfl
  have q1 : p1 1 = [] := rfl
  have q3 : p1 3 = [⟨#[97, 42]⟩] := rfl
  rw [List.flatMap_cons, List.flatMap_singleton, List.flatMap_cons, List.flatMap_singleton, nameL_eq (by rw [e1]; simp), nameL_eq (by rw [e3]; simp), if_neg (by rw [e1]; simp), if_neg (by rw [e3]; simp)]
  unfold patL
  have hs : sortS ([] : List ByteArray) = [] := by simp [sortS]
  have ht : sortS [(⟨#[97, 42]⟩ : ByteArray)] = [⟨#[97, 42]⟩] := List.perm_singleton.1 (sortS_perm _)
  rw [q1, q3, hs, ht, List.filter_nil, List.map_nil, List.nil_append, List.filter_cons, if_pos gm_ab]
  rfl
theorem o3 : [(5 : Int)].flatMap (nameL (fun _ => []) ⟨#[97]⟩ ⟨#[120]⟩) ++ [(5 : Int)].flatMap (patL p2 ⟨#[97]⟩ ⟨#[120]⟩) = [] := by
  rw [List.flatMap_singleton, List.flatMap_singleton, nameL_eq List.nodup_nil, if_neg (by simp)]
  unfold patL
  rw [p2_five]
  have ht : sortS [zN 1024] = [zN 1024] := List.perm_singleton.1 (sortS_perm _)
  rw [ht, List.filter_cons, if_neg (by rw [gm_z]; decide)]
  rfl
theorem c1 : ([(1 : Int), 3].flatMap (nameL f2 ⟨#[97]⟩ ⟨#[120]⟩)).length = 2 := by
  have e1 : f2 1 = [⟨#[97]⟩] := rfl
  have e3 : f2 3 = [⟨#[97]⟩] := rfl
  rw [List.flatMap_cons, List.flatMap_singleton, nameL_eq (by rw [e1]; simp), nameL_eq (by rw [e3]; simp), if_pos (by rw [e1]; simp), if_pos (by rw [e3]; simp)]
  rfl
theorem nm1 : Named (f2, p1) [1, 3] := ⟨fun s h => by
    have h : f2 s ≠ [] := h
    unfold f2 at h
    by_cases e : s = 1 ∨ s = 3
    · rcases e with e | e <;> simp [e]
    · rw [if_neg e] at h; exact absurd rfl h,
  fun s h => by
    have h : p1 s ≠ [] := h
    unfold p1 at h
    by_cases e : s = 3
    · simp [e]
    · rw [if_neg e] at h; exact absurd rfl h⟩
theorem nm2 : Named (fun _ => [], p2) [5] := ⟨fun s h => absurd rfl h, fun s h => by
    have h : p2 s ≠ [] := h
    unfold p2 at h
    by_cases e : s = 5
    · simp [e]
    · rw [if_neg e] at h; exact absurd rfl h⟩
theorem sm1 : Sm (f2, p1) := by
  refine ⟨fun s x hx => ?_, fun s x hx => ?_⟩
  · have hx : x ∈ f2 s := hx
    unfold f2 at hx
    split at hx
    · rw [List.mem_singleton.1 hx]; decide
    · cases hx
  · have hx : x ∈ p1 s := hx
    unfold p1 at hx
    split at hx
    · rw [List.mem_singleton.1 hx]; decide
    · cases hx
theorem sm2 : Sm (fun _ => [], p2) := by
  refine ⟨fun s x hx => (by cases hx), fun s x hx => ?_⟩
  have hx : x ∈ p2 s := hx
  unfold p2 at hx
  split at hx
  · rw [List.mem_singleton.1 hx, zN_size]; decide
  · cases hx
end Go.Proofs.YtleoeccjnchclaaDoor
