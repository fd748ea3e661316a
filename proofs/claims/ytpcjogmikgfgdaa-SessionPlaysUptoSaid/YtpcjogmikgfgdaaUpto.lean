/- What the second form (Upto) asks: the bulk of what comes in; lists and texts opened with a bound; a world for the witness. No condition. -/
import Derived.Test.YtpcjogmikgfgdaaWrap
import Derived.OpenShut
import Derived.Deep.DeepHandedRow
import Derived.Lib.LaidTab
namespace Go.Proofs.Ytpcjogmikgfgdaa
open Go.ChangeShapes Go.WideShapes Go.ChangeAt Go.RowKit
noncomputable def laidWorld (os : Os) : World := World.holding Try.prog os ⟨#[], #[], []⟩
theorem bulk_pos {H : Type} (d : DataW H) : 1 ≤ Rows.uptoBulk d := by
  cases d with
  | lit l => cases l <;> simp [Rows.uptoBulk]
  | nil => simp [Rows.uptoBulk]
  | ptr d => simp [Rows.uptoBulk]
  | slice elems spare => simp [Rows.uptoBulk]
  | agg parts => simp [Rows.uptoBulk]
  | iface t d => simp [Rows.uptoBulk]
  | map entries => simp [Rows.uptoBulk]
  | held h => simp [Rows.uptoBulk]
theorem bulk_part {H : Type} {d : DataW H} {l : List (DataW H)} (h : d ∈ l) : Rows.uptoBulk d ≤ Rows.uptoBulkAll l := by
  induction l with
  | nil => cases h
  | cons x r ih =>
    simp only [Rows.uptoBulkAll]
    cases List.mem_cons.1 h with
    | inl e => subst e; omega
    | inr e => have := ih e; omega
theorem bulk_len {H : Type} (l : List (DataW H)) : l.length ≤ Rows.uptoBulkAll l := by
  induction l with
  | nil => simp [Rows.uptoBulkAll]
  | cons x r ih => have := bulk_pos x; simp only [Rows.uptoBulkAll, List.length_cons]; omega
section
variable {H : Type} {enc : TypeId × Value → H} {P : Program} {w : World} {base : Nat} {held : Bool} {r : Reach} {b0 : Nat} {t : TypeId} {v : Value} {d : DataW H} {p : List MemPlace}
/-- a slice opened, each element with its datum -/
theorem open_listQ {α : Type} {e : TypeId} {sz : Nat} (cs : α → List Value) (Q : α → DataW H → Prop) (hcs : ∀ x, (cs x).length = sz) (ht : P.underlying t = some (.slice e)) (hc : P.cellsOf e = sz)
    (hel : ∀ (n : Nat) (l : List Value) (y : DataW H × List MemPlace), DataW.trod enc P w base (fun _ => true) held n e l = some y → ∃ x, l = cs x ∧ Q x y.1)
    {fuel : Nat} {c : Value} (hf : DataW.trod enc P w base (fun _ => true) held fuel t [c] = some (d, p)) :
    ∃ l : List α, RdC w sz c l.length (l.flatMap cs) ∧ l.length ≤ Rows.uptoBulk d ∧ ∀ x ∈ l, ∃ d', Q x d' ∧ Rows.uptoBulk d' ≤ Rows.uptoBulk d := by
  rcases Go.Deep.open_slice ht hf with ⟨hcs0, hx⟩ | ⟨a', len', cap', m, n, D, Pl, hcs1, hb, hl, hm, hmm, hx, hi⟩
  · cases List.singleton_inj.1 hcs0
    exact ⟨[], RdC.nil w sz, Nat.zero_le _, fun x hx => by cases hx⟩
  · cases List.singleton_inj.1 hcs1
    simp only [if_true] at hmm
    subst hmm
    have hd : d = .slice ((List.range len').map D) ((List.range (m - len')).map fun j => D (len' + j)) := (Prod.mk.injEq .. ▸ hx).1
    have hbk : Rows.uptoBulk d = Rows.uptoBulkAll ((List.range len').map D) + Rows.uptoBulkAll ((List.range (m - len')).map fun j => D (len' + j)) + 1 := by rw [hd]; simp only [Rows.uptoBulk]
    have hall : ∀ k, k ≤ len' → ∃ l : List α, l.length = k ∧ (∀ j u, (l.flatMap cs)[j]? = some u → w.cell? (a'.add j) = some u) ∧ ∀ x ∈ l, ∃ i, i < len' ∧ Q x (D i) := by
      intro k
      induction k with
      | zero => intro _; exact ⟨[], rfl, fun j u hu => by simp at hu, fun x hx => by cases hx⟩
      | succ k ih =>
        intro hk
        obtain ⟨l, hll, hlc, hlq⟩ := ih (by omega)
        obtain ⟨c', hc1, hc2⟩ := hi k (by omega)
        obtain ⟨x, rfl, hq⟩ := hel n c' _ hc2
        obtain ⟨_, hcl, hat⟩ := World.cells?_some hc1
        refine ⟨l ++ [x], by simp [hll], fun j u hu => ?_, fun y hy => ?_⟩
        · have hlen : (l.flatMap cs).length = k * sz := by
            rw [List.length_flatMap]
            have : l.map (fun x => (cs x).length) = l.map (fun _ => sz) := List.map_congr_left (fun x _ => hcs x)
            rw [this, List.map_const', List.sum_replicate_nat, hll]
          rw [List.flatMap_append, List.flatMap_singleton, List.getElem?_append] at hu
          split at hu
          · exact hlc j u hu
          · rename_i hge
            have hj : j - k * sz < sz := by
              have := (List.getElem?_eq_some_iff.1 hu).1
              rw [hcs, hlen] at this; exact this
            have h2 := hat (j - k * sz) (by rw [hc]; exact hj)
            rw [hlen] at hu hge
            rw [hc, Go.Deep.add_add, show k * sz + (j - k * sz) = j by omega] at h2
            exact h2.trans hu
        · rcases List.mem_append.1 hy with hy | hy
          · exact hlq y hy
          · rw [List.mem_singleton.1 hy]; exact ⟨k, by omega, hq⟩
    obtain ⟨l, hll, hlc, hlq⟩ := hall len' (Nat.le_refl _)
    subst hll
    refine ⟨l, ⟨?_, some a', m, rfl, hl, hm, (fun e => by cases e), fun ad had => by cases had; exact hlc⟩, ?_, fun x hx => ?_⟩
    · rw [List.length_flatMap]
      have : l.map (fun x => (cs x).length) = l.map (fun _ => sz) := List.map_congr_left (fun x _ => hcs x)
      rw [this, List.map_const', List.sum_replicate_nat]
    · have := bulk_len ((List.range l.length).map D)
      rw [List.length_map, List.length_range] at this
      omega
    · obtain ⟨i, hi, hq⟩ := hlq x hx
      refine ⟨D i, hq, ?_⟩
      have := bulk_part (List.mem_map_of_mem (f := D) (List.mem_range.2 hi))
      omega
end
section
variable {H : Type} {enc : TypeId × Value → H} {P : Program} {w : World} {base : Nat} {held : Bool} {r : Reach} {b0 N : Nat} {t : TypeId} {v : Value} {d : DataW H} {p : List MemPlace} {spare : Nat → Bool}
theorem open_listB {α : Type} {e : TypeId} {sz : Nat} (cs : α → List Value) (hcs : ∀ x, (cs x).length = sz) (ht : P.underlying t = some (.slice e)) (hc : P.cellsOf e = sz)
    (hel : ∀ (n : Nat) (l : List Value) (y : DataW H × List MemPlace), DataW.trod enc P w base (fun _ => true) held n e l = some y → ∃ x, l = cs x)
    (hv : Value.okWide P w r b0 t v) (h : DataW.Trod enc P w base (fun _ => true) held t v d p) (hb : Rows.uptoBulk d ≤ N) : ∃ l : List α, RdC w sz v l.length (l.flatMap cs) ∧ l.length ≤ N := by
  obtain ⟨a, len, cap, rfl⟩ := okWide_slice ht hv
  obtain ⟨fuel, hf⟩ := h
  obtain ⟨l, h1, h2, _⟩ := open_listQ cs (fun _ _ => True) hcs ht hc (fun n l y h => by obtain ⟨x, hx⟩ := hel n l y h; exact ⟨x, hx, trivial⟩) (c := .slice a len cap) (d := d) (p := p) hf
  exact ⟨l, h1, Nat.le_trans h2 hb⟩
theorem open_strB (ht : P.underlying t = some .string) (hv : Value.okWide P w r b0 t v) (h : DataW.Trod enc P w base spare held t v d p)
    (hb : Rows.uptoBulk d ≤ N) : ∃ s, v = .string s ∧ s.size ≤ N := by
  obtain ⟨s, rfl, rfl, _, hs⟩ := Go.ChangeMaps.open_string ht hv h
  refine ⟨s, rfl, ?_⟩
  simp only [Rows.uptoBulk] at hb
  have e : s.data.toList.length = s.size := by simp
  omega
end
end Go.Proofs.Ytpcjogmikgfgdaa
