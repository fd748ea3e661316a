/- pantrylaw25's said: an array of bulks of these texts. No condition. -/
import Derived.Test.YtleoeccjnchclaaDoorHas25
namespace Go.Proofs.YtleoeccjnchclaaDoor
open Go.RowKit
theorem flat_bulk (l : List ByteArray) (k j : Nat) (hk : k < l.length) (hj : j < 4) : (l.flatMap bulkC)[k * 4 + j]? = (bulkC l[k])[j]? := by
  induction l generalizing k with
  | nil => simp at hk
  | cons x l ih =>
    rw [List.flatMap_cons]
    cases k with
    | zero =>
      rw [Nat.zero_mul, Nat.zero_add, List.getElem?_append_left (by show j < 4; exact hj)]
      rfl
    | succ k =>
      have := ih k (by simpa using hk)
      rw [List.getElem?_append_right (by show 4 ≤ _; omega)]
      rw [show (k + 1) * 4 + j - (bulkC x).length = k * 4 + j by show _ - 4 = _; omega]
      exact this
set_option maxRecDepth 100000 in
set_option maxHeartbeats 2000000 in
theorem said25_any (w : World) (u v : Value) (l : List ByteArray) (hr : RdC w 4 u l.length (l.flatMap bulkC)) (hv : RdC w 1 v l.length (l.map .string)) (hl : l.length ≤ 1048576) :
    Calls Tryd.prog 17 #[.agg #[.int .i64 6, .string ⟨#[]⟩, .int .i64 0, u], v] w fun e w' => e = .returned (.bool true) ∧ Fr (fun _ => False) w w' := by
  have HR := Lib.hid hr
  have HV := Lib.hid hv
  obtain ⟨-, ua, uc, rfl, -⟩ := hr
  obtain ⟨-, va, vc, rfl, -⟩ := hv
  go_enter Tryd.func17, Tryd.ntmps17
  go_wp2
  go_loopw [31] (fun i wr => ∃ k : Nat, i = .int .i64 k ∧ k ≤ l.length ∧ Hid (Fr (fun _ => False) w wr)) (fun i _ => l.length - (intOf i).toNat)
  case atStart => exact ⟨0, rfl, by omega, Fr.alloc _ _ _⟩
  case round =>
    obtain ⟨k, rfl, hk, HF⟩ := hrel
    obtain ⟨wo, rfl⟩ : ∃ wo, wo = wr := ⟨_, rfl⟩
    by_cases hlt : k < l.length
    · obtain ⟨g, off, rfl, ct⟩ := texts_at (HV.out.fr HF.out (fun _ _ h => h)) k hlt
      have hrr := HR.out.fr HF.out (fun _ _ h => h)
      obtain ⟨g2, off2, rfl, hc⟩ := hrr.at (by have := flat_bulk l k 0 hlt (by decide); have h2 : (bulkC l[k])[0]? = some (.int .i64 4) := rfl; rw [h2] at this; have := (List.getElem?_eq_some_iff.1 this).1; omega)
      obtain ⟨y, hy⟩ : ∃ y, l[k] = y := ⟨_, rfl⟩
      have x0 := hc (k * 4 + 0) _ (by rw [flat_bulk l k 0 hlt (by decide), hy]; rfl)
      have x1 := hc (k * 4 + 1) _ (by rw [flat_bulk l k 1 hlt (by decide), hy]; rfl)
      have x2 := hc (k * 4 + 2) _ (by rw [flat_bulk l k 2 hlt (by decide), hy]; rfl)
      have x3 := hc (k * 4 + 3) _ (by rw [flat_bulk l k 3 hlt (by decide), hy]; rfl)
      rw [Nat.add_zero] at x0
      rw [← Nat.add_assoc] at x1 x2 x3
      rw [hy] at ct
      have ct2 : (wo.alloc (.cells #[.int .i64 4, .string y, .int .i64 0, .slice none 0 0] 39)).cell? ⟨g, off + k, none⟩ = some (.string y) := (Fr.alloc (fun _ => False) wo _).cell ct (fun h => h)
      have b0 : (0 : Int) ≤ (k : Int) := by omega
      have b1 : (k : Int) < (l.length : Int) := by omega
      clear hrr hc hy
      go_upto_region 6 with (fail)
      go_quiet (fail)
      go_wp2
      go_roundw
      case rel => exact ⟨k + 1, by go_num, by omega, (HF.out.thenAlloc _).thenDrewN _⟩
      case measure => simp [intOf]; omega
    · go_wp2
      go_ret
      exact ⟨rfl, HF.out⟩
end Go.Proofs.YtleoeccjnchclaaDoor
