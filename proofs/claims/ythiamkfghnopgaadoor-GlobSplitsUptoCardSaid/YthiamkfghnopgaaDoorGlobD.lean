/- A sign that comes in, opened. -/
import Derived.Test.YthiamkfghnopgaaDoorGlobC
import Derived.Lib.SmallJoins
namespace Go.Proofs.YthiamkfghnopgaaDoor
open Go.ChangeShapes Go.WideShapes Go.ChangeAt Go.RowKit
section
variable {H : Type} {enc : TypeId × Value → H} {P : Program} {w : World} {base : Nat} {held : Bool} {r : Reach} {b0 : Nat} {t : TypeId} {v : Value} {d : DataW H} {p : List MemPlace}
/-- as open_list, of a slice whose shape is known -/
theorem open_listT {α : Type} {e : TypeId} {sz : Nat} (cs : α → List Value) (hcs : ∀ x, (cs x).length = sz) (ht : P.underlying t = some (.slice e)) (hc : P.cellsOf e = sz)
    (hel : ∀ (n : Nat) (l : List Value) (y : DataW H × List MemPlace), DataW.trod enc P w base (fun _ => true) held n e l = some y → ∃ x, l = cs x)
    (hsh : ∃ a len cap, v = .slice a len cap) (h : DataW.Trod enc P w base (fun _ => true) held t v d p) :
    ∃ l : List α, RdC w sz v l.length (l.flatMap cs) ∧ ∀ n, (d.weights P t).all (fun x => decide (x ≤ n)) = true → l.length * P.bytesOf e ≤ n := by
  obtain ⟨a, len, cap, rfl⟩ := hsh
  obtain ⟨fuel, hf⟩ := h
  rcases Go.Deep.open_slice ht hf with ⟨hcs0, hx⟩ | ⟨a', len', cap', m, n, D, Pl, hcs1, hb, hl, hm, hmm, hx, hi⟩
  · simp [Value.cells] at hcs0
    obtain ⟨rfl, rfl, rfl⟩ := hcs0
    exact ⟨[], RdC.nil w sz, fun n _ => by simp⟩
  · simp [Value.cells] at hcs1
    obtain ⟨rfl, rfl, rfl⟩ := hcs1
    simp only [if_true] at hmm
    subst hmm
    have hall : ∀ k, k ≤ len → ∃ l : List α, l.length = k ∧ ∀ j u, (l.flatMap cs)[j]? = some u → w.cell? (a'.add j) = some u := by
      intro k
      induction k with
      | zero => intro _; exact ⟨[], rfl, fun j u hu => by simp at hu⟩
      | succ k ih =>
        intro hk
        obtain ⟨l, hll, hlc⟩ := ih (by omega)
        obtain ⟨c', hc1, hc2⟩ := hi k (by omega)
        obtain ⟨x, rfl⟩ := hel n c' _ hc2
        obtain ⟨_, hcl, hat⟩ := World.cells?_some hc1
        refine ⟨l ++ [x], by simp [hll], fun j u hu => ?_⟩
        have hlen : (l.flatMap cs).length = k * sz := by
          rw [List.length_flatMap]
          have : l.map (fun x => (cs x).length) = l.map (fun _ => sz) := List.map_congr_left (fun x _ => hcs x)
          rw [this, List.map_const', List.sum_replicate_nat, hll]
        rw [List.flatMap_append, List.flatMap_singleton, List.getElem?_append] at hu
        split at hu
        · exact hlc j u hu
        · rename_i hge
          have hj : j - k * sz < sz := by
            have := (List.getElem?_eq_some_iff.1 hu).1
            rw [hcs, hlen] at this; exact this
          have h2 := hat (j - k * sz) (by rw [hc]; exact hj)
          rw [hlen] at hu hge
          rw [hc, Go.Deep.add_add, show k * sz + (j - k * sz) = j by omega] at h2
          exact h2.trans hu
    obtain ⟨l, hll, hlc⟩ := hall len (Nat.le_refl _)
    subst hll
    refine ⟨l, ⟨?_, some a', m, rfl, hl, hm, (fun e => by cases e), fun ad had => by cases had; exact hlc⟩, fun q hq => ?_⟩
    · rw [List.length_flatMap]
      have : l.map (fun x => (cs x).length) = l.map (fun _ => sz) := List.map_congr_left (fun x _ => hcs x)
      rw [this, List.map_const', List.sum_replicate_nat]
    · have hd : d = .slice ((List.range l.length).map D) ((List.range (m - l.length)).map fun j => D (l.length + j)) := (Prod.mk.injEq .. ▸ hx).1
      rw [hd] at hq
      simp only [DataW.weights, ht, List.all_cons, Bool.and_eq_true, decide_eq_true_eq, List.length_map, List.length_range] at hq
      exact Nat.le_trans (Nat.mul_le_mul_right _ (Nat.le_add_right _ _)) hq.1
theorem byte_cells {e : TypeId} (ht : P.underlying e = some (.int .u8)) (n : Nat) (l : List Value) (y : DataW H × List MemPlace) (h : DataW.trod enc P w base (fun _ => true) held n e l = some y) : ∃ x : UInt8, l = [u8 x] := by
  obtain ⟨x, rfl, _, hw⟩ := DataW.trod_int ht h
  obtain ⟨u, rfl⟩ := byte_of hw
  exact ⟨u, rfl⟩
theorem byte_flat (l : List UInt8) : l.flatMap (fun u => [u8 u]) = l.map u8 := by induction l <;> simp_all
/-- the set of a sign -/
theorem open_bytes {n : Nat} {c : Value} {y : DataW H × List MemPlace} (ht : P.underlying t = some (.slice 5)) (hu : P.underlying 5 = some (.int .u8)) (hc : P.cellsOf 5 = 1)
    (h : DataW.trod enc P w base (fun _ => true) held n t [c] = some y) :
    ∃ l : List UInt8, RdC w 1 c l.length (l.map u8) ∧ ∀ n, (y.1.weights P t).all (fun x => decide (x ≤ n)) = true → l.length * P.bytesOf 5 ≤ n := by
  have hsh : ∃ a len cap, c = .slice a len cap := by
    rcases Go.Deep.open_slice ht h with ⟨h0, _⟩ | ⟨a', len', cap', m, n, D, Pl, h1, _⟩
    · exact ⟨_, _, _, List.singleton_inj.1 h0⟩
    · exact ⟨_, _, _, List.singleton_inj.1 h1⟩
  obtain ⟨a, len, cap, rfl⟩ := hsh
  obtain ⟨l, h1, h2⟩ := open_listT (α := UInt8) (fun u => [u8 u]) (fun _ => rfl) ht hc (byte_cells hu) ⟨_, _, _, rfl⟩ ⟨n, h⟩
  rw [byte_flat] at h1
  exact ⟨l, h1, h2⟩
end
section
variable {H : Type} {enc : TypeId × Value → H} {w : World} {base : Nat} {held : Bool} {r : Reach} {b0 : Nat} {v : Value} {d : DataW H} {p : List MemPlace}
theorem open_sign (hv : Value.okWide Tryd.prog w r b0 30 v) (h : DataW.Trod enc Tryd.prog w base (fun _ => true) held 30 v d p)
    (hw : (d.weights Tryd.prog 30).all (fun x => decide (x ≤ reachBytes)) = true) :
    ∃ (k : Int) (a b : UInt8) (v3 : Value) (o : List UInt8), v = .agg #[.int .i64 k, .int .u8 a.toNat, .int .u8 b.toNat, v3] ∧ RdC w 1 v3 o.length (o.map u8) ∧ o.length ≤ 140737488351232 := by
  obtain ⟨v0, v1, v2, v3, y0, y1, y2, y3, n, rfl, rfl, _, t0, t1, t2, t3⟩ := Go.Joins.open_agg4 Tryd.underlying30 (by kernel_rfl) (by kernel_rfl) hv h
  obtain ⟨x0, g0, _, _⟩ := DataW.trod_int Tryd.underlying3 t0
  obtain ⟨x1, g1, _, w1⟩ := DataW.trod_int Tryd.underlying5 t1
  obtain ⟨x2, g2, _, w2⟩ := DataW.trod_int Tryd.underlying5 t2
  obtain ⟨a, rfl⟩ := byte_of w1
  obtain ⟨b, rfl⟩ := byte_of w2
  cases g0; cases g1; cases g2
  obtain ⟨o, h1, h2⟩ := open_bytes Tryd.underlying28 Tryd.underlying5 (by kernel_rfl) t3
  refine ⟨x0, a, b, v3, o, rfl, h1, ?_⟩
  have e : Tryd.prog.bytesOf 5 = 1 := by kernel_rfl
  have h3 := h2 reachBytes (by
    have hu := Tryd.underlying30
    simp only [DataW.weights, hu] at hw
    have e2 : ∀ (ts : List TypeId), ts = [3, 5, 5, 28] → (DataW.weightsEach Tryd.prog ts [y0.1, y1.1, y2.1, y3.1]).all (fun x => decide (x ≤ reachBytes)) = true → (y3.1.weights Tryd.prog 28).all (fun x => decide (x ≤ reachBytes)) = true := by
      rintro ts rfl hq
      simp only [DataW.weightsEach, List.all_append, Bool.and_eq_true] at hq
      exact hq.2.2.2.1
    exact e2 _ rfl hw)
  rw [e, Nat.mul_one] at h3
  exact h3
end
end Go.Proofs.YthiamkfghnopgaaDoor
