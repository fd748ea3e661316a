/- pantrylaw14's same: are two lists of candidates one? sooner: which comes first. No condition. -/
import Derived.Test.YtpcjogmikgfgdaaPoolG
namespace Go.Proofs.Ytpcjogmikgfgdaa
open Go.RowKit Go.Sort
instance : DecidableEq Cd := fun a b => decidable_of_iff (eqC a b = true) (eqC_iff a b)
theorem neqC_run (a b : Cd) (w : World) : (binOp .neq 73 (.agg #[.string a.key, .int .u64 a.rank]) (.agg #[.string b.key, .int .u64 b.rank])).run Try.prog w = .ok (.bool (!eqC a b)) w := by
  have h := run_eqC a b w
  rw [run_eql_struct] at h
  rw [run_neq_struct]
  generalize (Op.equalIn 10000 73 (.agg #[.string a.key, .int .u64 a.rank]) (.agg #[.string b.key, .int .u64 b.rank])).run Try.prog w = r at h ⊢
  cases r with
  | ok x w2 => simp only [Result.andThen_ok] at h ⊢; injection h with h1 h2; injection h1 with h1; rw [h1, h2]
  | halt x w2 => simp [Result.andThen] at h
theorem cds_ext {l1 l2 : List Cd} (hl : l1.length = l2.length) (h : ∀ j, (hj : j < l1.length) → l1[j] = l2[j]'(by omega)) : l1 = l2 := List.ext_getElem hl (fun j h1 h2 => h j h1)
set_option maxRecDepth 100000 in
set_option maxHeartbeats 1000000 in
theorem sameC_any (w : World) (v1 v2 : Value) (l1 l2 : List Cd) (h1 : RdC w 2 v1 l1.length (clC l1)) (h2 : RdC w 2 v2 l2.length (clC l2)) :
    Calls Try.prog 50 #[v1, v2] w fun e w' => e = .returned (.bool (decide (l1 = l2))) ∧ Fr (fun _ => False) w w' := by
  have hm1 := h1.len
  have hm2 := h2.len
  unfold maxLen at hm1 hm2
  have H1 := Lib.hid h1
  have H2 := Lib.hid h2
  obtain ⟨-, a1, c1, rfl, -⟩ := h1
  obtain ⟨-, a2, c2, rfl, -⟩ := h2
  obtain ⟨r, hr⟩ : ∃ r, decide (l1 = l2) = r := ⟨_, rfl⟩
  rw [hr]
  have HR := Lib.hid hr
  clear hr
  by_cases hl : l1.length = l2.length
  · have gl : ((l1.length : Int) != (l2.length : Int)) = false := by rw [hl]; simp
    go_enter Try.func50, Try.ntmps50
    go_wp2_with fail
    go_loopw [13] (fun i wr => ∃ j : Nat, i = .int .i64 j ∧ j ≤ l1.length ∧ Hid (∀ t, (ht : t < j) → (ht2 : t < l1.length) → l1[t] = l2[t]'(by omega)) ∧ Hid (Fr (fun _ => False) w wr)) (fun i _ => l1.length - (intOf i).toNat)
    case atStart => exact ⟨0, rfl, by omega, fun t ht => by omega, Fr.refl _ _⟩
    case round =>
      obtain ⟨j, rfl, hj, HE, HF⟩ := hrel
      obtain ⟨wo, rfl⟩ : ∃ x, x = wr := ⟨_, rfl⟩
      by_cases hlt : j < l1.length
      · obtain ⟨g1, o1, rfl, d0, d1⟩ := cd_at (H1.out.fr HF.out (fun _ _ h => h)) j hlt
        obtain ⟨g2, o2, rfl, f0, f1⟩ := cd_at (H2.out.fr HF.out (fun _ _ h => h)) j (by omega)
        obtain ⟨x, hx⟩ : ∃ x, l1[j] = x := ⟨_, rfl⟩
        obtain ⟨y, hy⟩ : ∃ y, l2[j]'(by omega) = y := ⟨_, rfl⟩
        rw [hx] at d0 d1
        rw [hy] at f0 f1
        have HX := Lib.hid hx
        have HY := Lib.hid hy
        have hb0 : (0 : Int) ≤ (j : Int) := by omega
        have hb1 : (j : Int) < (l1.length : Int) := by omega
        have hb2 : (j : Int) < (l2.length : Int) := by omega
        clear hx hy
        by_cases hxy : x = y
        · subst hxy
          have HE2 : Hid (∀ t, (ht : t < j + 1) → (ht2 : t < l1.length) → l1[t] = l2[t]'(by omega)) := fun t ht ht2 => by
            by_cases htj : t < j
            · exact HE.out t htj ht2
            · obtain rfl : t = j := by omega
              rw [HX.out, HY.out]
          go_wp2_with fail
          go_region
          have HF2 := Lib.hid (HF.out.thenDrew)
          go_wp2_with fail
          go_roundw
          case rel => exact ⟨j + 1, by go_num, by omega, HE2, HF2.out⟩
          case measure => simp [intOf]; omega
        · have hne : l1 ≠ l2 := by
            rintro rfl
            have h5 := HX.out
            rw [HY.out] at h5
            exact hxy h5.symm
          have hrf : r = false := by rw [← HR.out]; exact decide_eq_false hne
          subst hrf
          clear hne
          by_cases hk : x.key.toList = y.key.toList
          · have hrk : ¬ (x.rank : Int) = (y.rank : Int) := fun e => hxy ((eqC_iff x y).1 (by unfold eqC; rw [Bool.and_eq_true]; exact ⟨beq_iff_eq.2 hk, beq_iff_eq.2 (by omega)⟩))
            clear hxy
            go_wp2_with fail
            go_region
            have HF2 := Lib.hid (HF.out.thenDrew)
            go_wp2_with fail
            go_ret
            exact ⟨rfl, HF2.out⟩
          · clear hxy
            go_wp2_with fail
            go_region
            have HF2 := Lib.hid (HF.out.thenDrew)
            go_wp2_with fail
            go_ret
            exact ⟨rfl, HF2.out⟩
      · have hjl : j = l1.length := by omega
        have hrt : r = true := by rw [← HR.out]; exact decide_eq_true (cds_ext hl (fun t ht => HE.out t (by omega) ht))
        subst hrt
        go_wp2_with fail
        go_ret
        exact ⟨rfl, HF.out⟩
  · have gl : ((l1.length : Int) != (l2.length : Int)) = true := by rw [bne_iff_ne]; omega
    have hrf : r = false := by rw [← HR.out]; exact decide_eq_false (fun e => hl (by rw [e]))
    subst hrf
    go_enter Try.func50, Try.ntmps50
    go_wp2_with fail
    go_ret
    exact ⟨rfl, Fr.refl _ _⟩
end Go.Proofs.Ytpcjogmikgfgdaa
