/- The walk of GlobSplits. -/
import Derived.Test.YthiamkfghnopgaaDoorGlobX
import Derived.Test.YthiamkfghnopgaaDoorGlobD
namespace Go.Proofs.YthiamkfghnopgaaDoor
open Go.RowKit
theorem RdC.take {w : World} {sz : Nat} {a : Option Addr} {n cap m : Nat} {xs ys : List Value} (h : RdC w sz (.slice a n cap) n (xs ++ ys)) (hx : xs.length = m * sz) (hm : m ≤ n) : RdC w sz (.slice a m cap) m xs := by
  obtain ⟨h1, a', cap', e, h2, h3, h4, h5⟩ := h
  cases e
  refine ⟨hx, a, cap, rfl, Nat.le_trans hm h2, h3, fun e => ?_, fun ad had j u hu => h5 ad had j u ?_⟩
  · have := h4 e; omega
  · rw [List.getElem?_append_left (List.getElem?_eq_some_iff.1 hu).1]; exact hu
theorem len4 (l : List SgB) : (l.flatMap sgc).length = l.length * 4 := by
  induction l with
  | nil => rfl
  | cons x l ih => rw [List.flatMap_cons, List.length_append, ih, sgc_len, List.length_cons]; omega
set_option maxRecDepth 100000 in
theorem few_any (l : List SgB) (v : Value) (w : World) (hr : RdC w 4 v l.length (l.flatMap sgc)) :
    Calls Tryd.prog 12 #[v, .int .i64 40] w fun e w' => (∃ v', e = .returned v' ∧ RdC w 4 v' (l.take 40).length ((l.take 40).flatMap sgc)) ∧ w = w' := by
  have hlen := hr.len
  have hlen2 : l.length ≤ 9223372036854775807 := hlen
  obtain ⟨ad, cap, hv, hcap, hcm⟩ : ∃ ad cap, v = .slice ad l.length cap ∧ l.length ≤ cap ∧ cap ≤ maxLen := by
    obtain ⟨_, ad, cap, h, h2, h3, _⟩ := hr
    exact ⟨ad, cap, h, h2, h3⟩
  subst hv
  have hcm2 : cap ≤ 9223372036854775807 := hcm
  clear hlen hcm
  by_cases h : l.length ≤ 40
  · have g : decide (40 < l.length) = false := by simpa using h
    have ht : l.take 40 = l := List.take_of_length_le h
    rw [ht]
    have HR := Lib.hid hr
    clear hr
    go_enter Tryd.func12, Tryd.ntmps12
    go_wp2
    go_ret
    exact ⟨⟨_, rfl, HR.out⟩, rfl⟩
  · have g : decide (40 < l.length) = true := by simpa using h
    obtain ⟨gb, off, rfl, hc⟩ := hr.at (by rw [len4]; omega)
    have hsp : l.flatMap sgc = (l.take 40).flatMap sgc ++ (l.drop 40).flatMap sgc := by rw [← List.flatMap_append, List.take_append_drop]
    rw [hsp] at hr
    have ht : (l.take 40).length = 40 := by rw [List.length_take]; omega
    have HR := Lib.hid (hr.take (m := 40) (by rw [len4, ht]) (by omega))
    rw [ht]
    have h40 : (40 : Int) ≤ cap := by omega
    clear hr hc hsp
    go_enter Tryd.func12, Tryd.ntmps12
    go_wp2
    go_ret
    exact ⟨⟨_, rfl, HR.out⟩, rfl⟩
/-- the splits of a name below a place: the first part means a, the second b -/
def spl (A B : List Sg) (s : Bytes) (i : Nat) : Bool := (List.range i).any fun j => means A (s.take j) && means B (s.drop j)
theorem spl_succ (A B : List Sg) (s : Bytes) (i : Nat) : spl A B s (i + 1) = (spl A B s i || (means A (s.take i) && means B (s.drop i))) := by
  unfold spl
  rw [List.range_succ, List.any_append]
  simp
theorem spl_end (A B : List Sg) (s : Bytes) : spl A B s (s.length + 1) = means (A ++ B) s := by
  rw [Bool.eq_iff_iff, means_append]
  unfold spl
  simp only [List.any_eq_true, List.mem_range, Bool.and_eq_true]
  constructor
  · rintro ⟨i, h1, h2, h3⟩; exact ⟨i, by omega, h2, h3⟩
  · rintro ⟨i, h1, h2, h3⟩; exact ⟨i, by omega, h2, h3⟩
end Go.Proofs.YthiamkfghnopgaaDoor
