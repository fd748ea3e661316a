/- slices.IndexFunc, slices.DeleteFunc of candidates by Drop's closure; Drop. No condition. -/
import Derived.Test.YtpcjogmikgfgdaaPoolC
namespace Go.Proofs.Ytpcjogmikgfgdaa
open Go.RowKit Go.Sort
theorem own_putK {w : World} {B : Nat} {e : TypeId} {sz g n cap i : Nat} {xs : List Value} (h : w.ownsRow B e sz (.slice (some ⟨g, 0, none⟩) n cap) n xs) (hi : i < n * sz) (x : Value) :
    (w.setCell ⟨g, i, none⟩ x).ownsRow B e sz (.slice (some ⟨g, 0, none⟩) n cap) n (xs.set i x) := by
  obtain ⟨hl, ⟨h0, _⟩ | ⟨g', cap', cur, he, hbase, hb, h1, h2, h3, h4⟩⟩ := h
  · cases h0
  cases he
  refine ⟨by rw [List.length_set]; exact hl, .inr ⟨g, cap, _, rfl, hbase, heap_setCell_same w g i _ _ x hb, h1, h2, by rw [Array.size_setIfInBounds]; exact h3, ?_⟩⟩
  rw [Array.toList_setIfInBounds, List.take_set, h4]
theorem clC_set (M : List Cd) (i : Nat) (c : Cd) : ((clC M).set (i * 2) (.string c.key)).set (i * 2 + 1) (.int .u64 c.rank) = clC (M.set i c) := by
  induction M generalizing i with
  | nil => rfl
  | cons a M ih =>
    rw [clC_cons]
    cases i with
    | zero => rfl
    | succ i =>
      have e : (i + 1) * 2 = i * 2 + 2 := by omega
      rw [e, List.set_cons_succ, clC_cons, ← ih i]
      rfl
theorem cd_at {w : World} {a : Option Addr} {n cap : Nat} {l : List Cd} (h : RdC w 2 (.slice a n cap) n (clC l)) (k : Nat) (hk : k < l.length) :
    ∃ g off, a = some ⟨g, off, none⟩ ∧ w.cell? ⟨g, off + k * 2, none⟩ = some (.string l[k].key) ∧ w.cell? ⟨g, off + k * 2 + 1, none⟩ = some (.int .u64 l[k].rank) := by
  obtain ⟨g, off, rfl, hc⟩ := h.at (by rw [clC_len]; omega)
  refine ⟨g, off, rfl, hc (k * 2) _ ((flat_at encC 2 (fun _ => rfl) l k 0 hk (by decide)).trans rfl), ?_⟩
  have := hc (k * 2 + 1) _ ((flat_at encC 2 (fun _ => rfl) l k 1 hk (by decide)).trans rfl)
  rw [← Nat.add_assoc] at this
  exact this
/-- the closure -/
theorem clos_any (c : Cd) (kb : Nat) (k : ByteArray) (w : World) (h : w.cell? ⟨kb, 0, none⟩ = some (.string k)) :
    Calls Try.prog 82 #[.agg #[.string c.key, .int .u64 c.rank], .pointer (some ⟨kb, 0, none⟩)] w fun e w' => e = .returned (.bool (c.key.toList == k.toList)) ∧ w' = w.alloc (.cells (encC c).toArray 73) := by
  have hkb : kb < w.heap.size := World.block_lt_of_cell? _ _ h
  go_enter Try.func82, Try.ntmps82
  go_wp2
  go_ret
  exact ⟨rfl, rfl⟩
def IdxPost (w : World) (l : List Cd) (k : ByteArray) (e : Ending) (w' : World) : Prop :=
  ((e = .returned (.int .i64 (-1)) ∧ ∀ c ∈ l, c.key ≠ k) ∨ (∃ j, ∃ h : j < l.length, e = .returned (.int .i64 j) ∧ l[j].key = k ∧ ∀ c ∈ l.take j, c.key ≠ k)) ∧ Fr (fun _ => False) w w'
set_option maxHeartbeats 1000000 in
theorem index_any (w : World) (v : Value) (l : List Cd) (kb : Nat) (k : ByteArray) (h : RdC w 2 v l.length (clC l)) (hk : w.cell? ⟨kb, 0, none⟩ = some (.string k)) (hl : l.length ≤ 17) :
    Calls Try.prog 98 #[v, .func (.func 82) #[] #[.pointer (some ⟨kb, 0, none⟩)]] w (IdxPost w l k) := by
  have H := Lib.hid h
  have HK := Lib.hid hk
  obtain ⟨-, a, c, rfl, -⟩ := h
  clear hk
  go_enter Try.func98, Try.ntmps98
  go_wp2_with fail
  go_loopw [8] (fun i wr => ∃ j : Nat, i = .int .i64 j ∧ j ≤ l.length ∧ Hid (∀ c ∈ l.take j, c.key ≠ k) ∧ Hid (Fr (fun _ => False) w wr)) (fun i _ => l.length - (intOf i).toNat)
  case atStart => exact ⟨0, rfl, by omega, fun c hc => by simp at hc, Fr.refl _ _⟩
  case round =>
    obtain ⟨j, rfl, hj, HN, HF⟩ := hrel
    obtain ⟨wo, rfl⟩ : ∃ x, x = wr := ⟨_, rfl⟩
    by_cases hlt : j < l.length
    · obtain ⟨g, off, rfl, d0, d1⟩ := cd_at (H.out.fr HF.out (fun _ _ h => h)) j hlt
      have hb0 : (0 : Int) ≤ (j : Int) := by omega
      have hb1 : (j : Int) < (l.length : Int) := by omega
      have hkk : wo.cell? ⟨kb, 0, none⟩ = some (.string k) := HF.out.cell HK.out (fun h => h)
      have hcl := clos_any l[j] kb k wo hkk
      obtain ⟨cj, hcj⟩ : ∃ c, l[j] = c := ⟨_, rfl⟩
      rw [hcj] at d0 d1 hcl
      have HCJ := Lib.hid hcj
      clear hcj hkk
      by_cases hq : cj.key = k
      · have hqb : (cj.key.toList == k.toList) = true := by rw [str_beq]; simpa using hq
        rw [hqb] at hcl
        have HQ := Lib.hid hq
        have HFA := Lib.hid (HF.out.thenAlloc (.cells (encC cj).toArray 73))
        clear hqb hq
        go_wp2_with fail
        refine hcl.mono ?_
        rintro e w3 ⟨rfl, rfl⟩
        go_wp2_with fail
        go_ret
        exact ⟨.inr ⟨j, hlt, rfl, by rw [HCJ.out]; exact HQ.out, HN.out⟩, HFA.out⟩
      · have hqb : (cj.key.toList == k.toList) = false := by rw [str_beq]; simpa using hq
        rw [hqb] at hcl
        have HQ : Hid (∀ c ∈ l.take (j + 1), c.key ≠ k) := fun c hc => by
          rw [List.take_succ_eq_append_getElem hlt, List.mem_append, List.mem_singleton] at hc
          rcases hc with hc | hc
          · exact HN.out c hc
          · rw [hc, HCJ.out]; exact hq
        have HFA := Lib.hid (HF.out.thenAlloc (.cells (encC cj).toArray 73))
        clear hqb hq
        go_wp2_with fail
        refine hcl.mono ?_
        rintro e w3 ⟨rfl, rfl⟩
        go_wp2_with fail
        go_roundw
        case rel => exact ⟨j + 1, by go_num, by omega, HQ, HFA.out⟩
        case measure => simp [intOf]; omega
    · obtain rfl : j = l.length := by omega
      go_wp2_with fail
      go_ret
      exact ⟨.inl ⟨rfl, by have := HN.out; rwa [List.take_length] at this⟩, HF.out⟩
end Go.Proofs.Ytpcjogmikgfgdaa
