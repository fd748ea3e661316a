/- Scans from nought on. No condition. -/
import Derived.Test.YtgomilodeaafdaaBb
namespace Go.Proofs.Ytgomilodeaafdaa
theorem scan_cur {M : DM} (h : Inv M) (ho : M.old.length ≤ 35184372088832) (hy : M.young.length ≤ 35184372088832) (c : Nat) (count : Int) : (scanK M c count).1 < 18446744073709551616 := by
  unfold scanK
  by_cases hne : M.old = []
  · rw [if_pos hne]; decide
  · rw [if_neg hne]
    have T := tabs h hne (max count 1).toNat
    obtain ⟨j', _, _, g3⟩ := TB.nxt_gen _ T.le c []
    rw [g3]
    have h1 := TB.cur_lt (scanT M (max count 1).toNat) j'
    have h2 := great_bound ho hy T.great
    have h3 : 2 ^ (scanT M (max count 1).toNat).g ≤ 2 ^ 45 := Nat.pow_le_pow_right (by decide) h2
    show TB.cur _ _ < _
    omega
/-- a first scan tells somebody -/
theorem scan_first {M : DM} (h : Inv M) (hn : entries M ≠ []) : (scanK M 0 1).2 ≠ [] := by
  have hne := old_ne h hn
  unfold scanK
  rw [if_neg hne]
  have T := tabs h hne (max (1 : Int) 1).toNat
  have hsa := seg_all h hne (max (1 : Int) 1).toNat
  have hcnt : (scanT M (max (1 : Int) 1).toNat).cnt = 1 := rfl
  obtain ⟨B, hB⟩ : ∃ B, scanT M (max (1 : Int) 1).toNat = B := ⟨_, rfl⟩
  rw [hB] at T hsa hcnt ⊢
  have hJ : 0 < B.J := Nat.two_pow_pos _
  obtain ⟨j', g1, g2, g3, g4⟩ := B.nxt_seg T.le _ 0 rfl hJ []
  rw [Nat.zero_mul, tr_zero] at g3
  rw [g3]
  show [] ++ B.seg 0 j' ≠ []
  intro e
  rcases Nat.lt_or_ge j' B.J with hj | hj
  · have := g4 hj
    rw [e, hcnt] at this
    simp at this
  · have ej : j' = B.J := by omega
    rw [List.nil_append, ej] at e
    rw [e] at hsa
    have := hsa.length_eq
    simp at this
    exact hn (List.length_eq_zero_iff.1 this.symm)
section
variable {α : Type} {f : α → List Value} {M : DM} {A : List (ByteArray × α)}
theorem delG_not {key x : ByteArray} (hnd : (A.map (·.1)).Nodup) (h : x ∈ (delG A key).map (·.1)) : x ∈ A.map (·.1) ∧ x ≠ key := by
  unfold delG at h
  cases ha : fdG key A with
  | none =>
    rw [ha] at h
    refine ⟨h, fun e => ?_⟩
    obtain ⟨y, hy, hyx⟩ := List.mem_map.1 h
    exact fdG_none ha y hy (hyx.trans e)
  | some i =>
    rw [ha] at h
    obtain ⟨y, hy⟩ := fdG_some ha
    have hp := (permG_erase A i _ hy).map (·.1)
    have hnd2 := hp.nodup_iff.1 hnd
    rw [List.map_cons, List.nodup_cons] at hnd2
    have h' : x ∈ (A.eraseIdx i).map (·.1) := h
    exact ⟨hp.mem_iff.2 (List.mem_cons_of_mem _ h'), fun e => hnd2.1 (by rw [← e]; exact h')⟩
theorem delG_nodup {key : ByteArray} (hnd : (A.map (·.1)).Nodup) : ((delG A key).map (·.1)).Nodup := by
  unfold delG
  cases ha : fdG key A with
  | none => exact hnd
  | some i => exact hnd.sublist ((List.eraseIdx_sublist A i).map _)
/-- calls of a table that stays as it is -/
def Toward (M : DM) (count : Int) (c0 n c : Nat) (L keys told0 : List ByteArray) : Prop :=
  (c ≠ 0 ∧ RS M (max count 1).toNat c0 n c L) ∨ (c = 0 ∧ ∀ x ∈ keys, x ∈ told0 ++ L)
theorem Toward.start {c0 : Nat} {keys told0 : List ByteArray} (M : DM) (count : Int) (h : Tld M.seed c0 told0 keys) : Toward M count c0 0 c0 [] keys told0 := by
  by_cases hc : c0 = 0
  · exact .inr ⟨hc, fun x hx => by rw [List.append_nil]; exact h x hx (.inl hc)⟩
  · exact .inl ⟨hc, RS.start M _ c0⟩
theorem Toward.few {count : Int} {c0 n c : Nat} {L keys told0 : List ByteArray} (h : Toward M count c0 n c L keys told0) (hi : Inv M) (hc : c ≠ 0) : n ≤ M.old.length + M.young.length := by
  rcases h with ⟨_, h⟩ | ⟨h, _⟩
  · exact h.lt hi
  · exact absurd h hc
theorem Toward.next {count : Int} {c0 n c : Nat} {L keys told0 : List ByteArray} (hl : LikeG f M A) (ho : M.old.length ≤ 35184372088832) (hy : M.young.length ≤ 35184372088832) (h : Toward M count c0 n c L keys told0) (hc : c ≠ 0) (ht : Tld M.seed c0 told0 keys) (hs : ∀ x ∈ keys, x ∈ A.map (·.1)) :
    Toward M count c0 (n + 1) (scanK M c count).1 (L ++ (scanK M c count).2) keys told0 ∧ (L ++ (scanK M c count).2).length ≤ 3 * M.n := by
  rcases h with ⟨_, h⟩ | ⟨h, _⟩
  · obtain ⟨h1, h2, h3⟩ := h.step hl.inv ho hy (count := count)
    refine ⟨?_, h1⟩
    by_cases hz : (scanK M c count).1 = 0
    · exact .inr ⟨hz, ht.rest hl hs (h2 hz)⟩
    · exact .inl ⟨hz, h3 hz⟩
  · exact absurd h hc
end
end Go.Proofs.Ytgomilodeaafdaa
