/- The document's own signs of a pattern: each with its table of bytes; what they mean is what the signs mean. No condition but sizes. -/
import Derived.Test.YtleoeccjnchclaaGreatDoorZau
namespace Go.Proofs.YtleoeccjnchclaaGreatDoor
open Go.RowKit
structure RS where
  st : Bool
  T : UInt8 → Bool
  one : UInt8
  pl : Bool
def rsC (r : RS) : List Value := signC r.st r.T r.one r.pl
theorem rsC_len (r : RS) : (rsC r).length = 259 := signC_len _ _ _ _
/-- the sign at the head of a pattern, and how many bytes it takes -/
def rs1 (q : Bytes) : RS × Nat := match q with
  | 42 :: _ => (⟨true, fun _ => false, 0, false⟩, 1)
  | 63 :: _ => (⟨false, fun _ => true, 0, false⟩, 1)
  | 91 :: r => (⟨false, (setAt r).1, 0, false⟩, 1 + (setAt r).2)
  | q => (⟨false, fun x => (lit q).1 == x, (lit q).1, true⟩, (lit q).2)
theorem rs1_lit (c : UInt8) (q : Bytes) (h0 : c ≠ 42) (h1 : c ≠ 63) (h2 : c ≠ 91) : rs1 (c :: q) = (⟨false, fun x => (lit (c :: q)).1 == x, (lit (c :: q)).1, true⟩, (lit (c :: q)).2) := by
  unfold rs1
  split
  · rename_i e; cases e; exact absurd rfl h0
  · rename_i e; cases e; exact absurd rfl h1
  · rename_i e; cases e; exact absurd rfl h2
  · rfl
theorem rs1_pos (q : Bytes) : 1 ≤ (rs1 q).2 := by
  unfold rs1
  split
  · simp
  · simp
  · simp only; omega
  · exact (lit_pos _).1
theorem rs1_le (q : Bytes) (h : q ≠ []) : (rs1 q).2 ≤ q.length := by
  unfold rs1
  split
  · simp
  · simp
  · unfold setAt; simp only [List.length_cons]; omega
  · exact lit_le _ h
def rsF : Nat → Bytes → List RS
  | 0, _ => []
  | _ + 1, [] => []
  | f + 1, c :: q => (rs1 (c :: q)).1 :: rsF f ((c :: q).drop (rs1 (c :: q)).2)
theorem rsF_fuel : ∀ (f g : Nat) (q : Bytes), q.length ≤ f → q.length ≤ g → rsF f q = rsF g q := by
  intro f
  induction f with
  | zero =>
    intro g q hf hg
    have : q = [] := List.length_eq_zero_iff.1 (by omega)
    subst this
    cases g <;> rfl
  | succ f ih =>
    intro g q hf hg
    cases q with
    | nil => cases g <;> rfl
    | cons c q =>
      cases g with
      | zero => simp at hg
      | succ g =>
        unfold rsF
        simp only [List.length_cons] at hf hg
        have h2 := rs1_pos (c :: q)
        have h3 : ((c :: q).drop (rs1 (c :: q)).2).length ≤ q.length := by rw [List.length_drop]; simp; omega
        rw [ih g _ (by omega) (by omega)]
def rs (q : Bytes) : List RS := rsF q.length q
theorem rs_nil : rs [] = [] := rfl
theorem rs_cons (c : UInt8) (q : Bytes) : rs (c :: q) = (rs1 (c :: q)).1 :: rs ((c :: q).drop (rs1 (c :: q)).2) := by
  show rsF (q.length + 1) (c :: q) = (rs1 (c :: q)).1 :: rsF ((c :: q).drop (rs1 (c :: q)).2).length ((c :: q).drop (rs1 (c :: q)).2)
  have h2 := rs1_pos (c :: q)
  have h3 : ((c :: q).drop (rs1 (c :: q)).2).length ≤ q.length := by rw [List.length_drop]; simp; omega
  rw [← rsF_fuel q.length _ _ h3 (Nat.le_refl _)]
  rfl
def toSg (r : RS) : Sg := if r.st then .star else .set r.T
/-- they are the signs -/
theorem rs_signs : ∀ (n : Nat) (q : Bytes), q.length ≤ n → (rs q).map toSg = signs q := by
  intro n
  induction n with
  | zero =>
    intro q hq
    have : q = [] := List.length_eq_zero_iff.1 (by omega)
    subst this; rfl
  | succ n ih =>
    intro q hq
    cases q with
    | nil => rfl
    | cons c q =>
      have h2 := rs1_pos (c :: q)
      have h3 : ((c :: q).drop (rs1 (c :: q)).2).length ≤ n := by rw [List.length_drop]; simp at hq ⊢; omega
      rw [rs_cons, List.map_cons, ih _ h3]
      by_cases h42 : c = 42
      · subst h42; rw [signs_star]; rfl
      · rw [signs_set c q h42]
        by_cases h63 : c = 63
        · subst h63; rfl
        · by_cases h91 : c = 91
          · subst h91; rfl
          · rw [rs1_lit c q h42 h63 h91, sign1_lit' c q h63 h91]; rfl
theorem rs_len : ∀ (n : Nat) (q : Bytes), q.length ≤ n → (rs q).length ≤ q.length := by
  intro n
  induction n with
  | zero =>
    intro q hq
    have : q = [] := List.length_eq_zero_iff.1 (by omega)
    subst this; simp [rs_nil]
  | succ n ih =>
    intro q hq
    cases q with
    | nil => simp [rs_nil]
    | cons c q =>
      have h2 := rs1_pos (c :: q)
      have h4 := rs1_le (c :: q) (by simp)
      have h3 := ih ((c :: q).drop (rs1 (c :: q)).2) (by rw [List.length_drop]; simp at hq ⊢; omega)
      rw [rs_cons]
      simp only [List.length_cons, List.length_drop] at h3 h4 ⊢
      omega
theorem owns_fr {w w' : World} {B : Nat} {e : TypeId} {size : Nat} {v : Value} {n : Nat} {xs : List Value} (h : w.ownsRow B e size v n xs) {S : Nat → Prop} (hf : Fr S w w') (hd : ∀ g, v.ownBlock = some g → ¬ S g) : w'.ownsRow B e size v n xs := by
  rcases h with ⟨h1, h2 | ⟨g, cap, cur, rfl, hb, hg, hnc, hcm, hcs, htake⟩⟩
  · exact ⟨h1, .inl h2⟩
  · exact ⟨h1, .inr ⟨g, cap, cur, rfl, hb, (hf.block g (Array.getElem?_eq_some_iff.1 hg).1 (hd g rfl)).trans hg, hnc, hcm, hcs, htake⟩⟩
theorem SignAt.fr {w w' : World} {g : Nat} {st : Bool} {T : UInt8 → Bool} {one : UInt8} {pl : Bool} (h : SignAt w g st T one pl) {S : Nat → Prop} (hf : Fr S w w') (hd : ¬ S g) : SignAt w' g st T one pl :=
  (hf.block g (Array.getElem?_eq_some_iff.1 h).1 hd).trans h
theorem SignAt.star {w : World} {g : Nat} {st : Bool} {T : UInt8 → Bool} {one : UInt8} {pl : Bool} (h : SignAt w g st T one pl) (st' : Bool) : SignAt (w.setCell ⟨g, 0, none⟩ (.bool st')) g st' T one pl := by
  unfold SignAt at h ⊢
  rw [heap_setCell_same w g 0 _ _ _ h]
  simp [signC]
theorem SignAt.put {w : World} {g : Nat} {st : Bool} {T : UInt8 → Bool} {one : UInt8} {pl : Bool} (h : SignAt w g st T one pl) (x : UInt8) : SignAt (w.setCell ⟨g, 1 + x.toNat, none⟩ (.bool true)) g st (fun y => T y || x == y) one pl := by
  unfold SignAt at h ⊢
  rw [heap_setCell_same w g (1 + x.toNat) _ _ _ h]
  congr 2
  have hx : x.toNat < 256 := x.toNat_lt
  apply Array.ext_getElem?
  intro i
  rw [Array.getElem?_setIfInBounds]
  simp only [List.size_toArray, signC_len, List.getElem?_toArray]
  by_cases hi : 1 + x.toNat = i
  · subst hi
    rw [if_pos rfl, if_pos (by omega), signC_at _ _ _ _ _ hx]
    have : UInt8.ofNat x.toNat = x := UInt8.toNat_inj.1 (ofNat_toNat _ hx)
    rw [this]; simp
  · rw [if_neg hi]
    cases i with
    | zero => rfl
    | succ i =>
      by_cases hi2 : i < 256
      · rw [Nat.add_comm i 1, signC_at _ _ _ _ _ hi2, signC_at _ _ _ _ _ hi2]
        have hne : (x == UInt8.ofNat i) = false := by
          rw [beq_eq_false_iff_ne]; intro e
          have := congrArg UInt8.toNat e
          rw [ofNat_toNat i hi2] at this; omega
        rw [hne, Bool.or_false]
      · unfold signC
        simp only [List.getElem?_cons_succ]
        rw [List.getElem?_append_right (by rw [tab_len]; omega), List.getElem?_append_right (by rw [tab_len]; omega), tab_len, tab_len]
theorem tab_set0 (T : UInt8 → Bool) (a b v : Value) (n : Nat) (hn : n = 256) : (tab T ++ [a, b]).set n v = tab T ++ [v, b] := by
  have h : n - (tab T).length = 0 := by rw [tab_len]; omega
  rw [List.set_append_right _ _ (by rw [tab_len]; omega), h]
  rfl
theorem tab_set1 (T : UInt8 → Bool) (a b v : Value) (n : Nat) (hn : n = 257) : (tab T ++ [a, b]).set n v = tab T ++ [a, v] := by
  have h : n - (tab T).length = 1 := by rw [tab_len]; omega
  rw [List.set_append_right _ _ (by rw [tab_len]; omega), h]
  rfl
theorem signC_set0 (st : Bool) (T : UInt8 → Bool) (one x : UInt8) (pl : Bool) (n : Nat) (hn : n = 257) : (signC st T one pl).set n (.int .u8 x.toNat) = signC st T x pl := by
  obtain ⟨m, rfl⟩ : ∃ m, n = m + 1 := ⟨n - 1, by omega⟩
  unfold signC
  rw [List.set_cons_succ, tab_set0 _ _ _ _ m (by omega)]
theorem signC_set1 (st : Bool) (T : UInt8 → Bool) (one : UInt8) (pl x : Bool) (n : Nat) (hn : n = 258) : (signC st T one pl).set n (.bool x) = signC st T one x := by
  obtain ⟨m, rfl⟩ : ∃ m, n = m + 1 := ⟨n - 1, by omega⟩
  unfold signC
  rw [List.set_cons_succ, tab_set1 _ _ _ _ m (by omega)]
theorem SignAt.oneSet {w : World} {g : Nat} {st : Bool} {T : UInt8 → Bool} {one : UInt8} {pl : Bool} (h : SignAt w g st T one pl) (x : UInt8) : SignAt (w.setCell ⟨g, 257, none⟩ (.int .u8 x.toNat)) g st T x pl := by
  unfold SignAt at h ⊢
  rw [heap_setCell_same w g 257 _ _ _ h, List.setIfInBounds_toArray, signC_set0 st T one x pl 257 rfl]
theorem SignAt.plSet {w : World} {g : Nat} {st : Bool} {T : UInt8 → Bool} {one : UInt8} {pl : Bool} (h : SignAt w g st T one pl) (x : Bool) : SignAt (w.setCell ⟨g, 258, none⟩ (.bool x)) g st T one x := by
  unfold SignAt at h ⊢
  rw [heap_setCell_same w g 258 _ _ _ h, List.setIfInBounds_toArray, signC_set1 st T one pl x 258 rfl]
theorem SignAt.cell {w : World} {g : Nat} {st : Bool} {T : UInt8 → Bool} {one : UInt8} {pl : Bool} (h : SignAt w g st T one pl) (i : Nat) : w.cell? ⟨g, i, none⟩ = (signC st T one pl)[i]? := by
  unfold SignAt at h
  unfold World.cell?
  rw [h]
  show (signC st T one pl).toArray[i]? = _
  rw [List.getElem?_toArray]
theorem signC_last0 (st : Bool) (T : UInt8 → Bool) (one : UInt8) (pl : Bool) (n : Nat) (hn : n = 257) : (signC st T one pl)[n]? = some (.int .u8 one.toNat) := by
  obtain ⟨m, rfl⟩ : ∃ m, n = m + 1 := ⟨n - 1, by omega⟩
  unfold signC
  rw [List.getElem?_cons_succ, List.getElem?_append_right (by rw [tab_len]; omega), tab_len, show m - 256 = 0 by omega]
  rfl
theorem signC_last1 (st : Bool) (T : UInt8 → Bool) (one : UInt8) (pl : Bool) (n : Nat) (hn : n = 258) : (signC st T one pl)[n]? = some (.bool pl) := by
  obtain ⟨m, rfl⟩ : ∃ m, n = m + 1 := ⟨n - 1, by omega⟩
  unfold signC
  rw [List.getElem?_cons_succ, List.getElem?_append_right (by rw [tab_len]; omega), tab_len, show m - 256 = 1 by omega]
  rfl
end Go.Proofs.YtleoeccjnchclaaGreatDoor
