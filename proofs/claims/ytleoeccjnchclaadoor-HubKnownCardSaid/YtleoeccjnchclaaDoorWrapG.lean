/- The frame of every law's proof in this seat: what a law's walk owes, and the statement that follows. -/
import Derived.Test.YtleoeccjnchclaaDoorRows
import Derived.Test.YtleoeccjnchclaaDoorHeap
import Derived.Test.YtleoeccjnchclaaDoorWord
import Derived.WalkKit
import Derived.ProofKit
import Derived.OpenShut
import Derived.ShutString
import Derived.ChangeOld
import Derived.Below
import Derived.SizedLaws
import Derived.Deep.Slices
import Derived.Deep.Fields
namespace Go.Proofs.YtleoeccjnchclaaDoor
open Go.ChangeShapes Go.WideShapes Go.ChangeAt Go.RowKit
open Go.ChangeMaps (open_string shut_string)

theorem own : ownKnob Tryd.prog.godebug = none := by kernel_rfl
theorem laidOut : laidOutB Tryd.prog = true := by kernel_rfl

section
variable {H : Type} {enc : TypeId × Value → H} {P : Program}

/-- The arguments read again behind a call that wrote nothing that was there. -/
theorem trodAll_below {W W' : World} (hl : laidOutB P = true) (hb : Below W.heap.size W W') :
    ∀ (ts : List TypeId) (vs : List Value) (ds : List (DataW H)) (p : List MemPlace), (∀ t ∈ ts, P.readableRec t = true ∧ t < P.types.size) →
      DataW.TrodAll enc P W 0 (fun _ => true) true ts vs ds p → DataW.TrodAll enc P W' 0 (fun b => decide (b < W.heap.size)) true ts vs ds p := by
  intro ts
  induction ts with
  | nil =>
    intro vs ds p _ h
    obtain ⟨rfl, rfl, rfl⟩ := trodAll_nil h
    exact trodAll_mk0
  | cons t ts ih =>
    intro vs ds p ht h
    obtain ⟨v, vs1, d, ds1, a, b, rfl, rfl, rfl, h1, h2⟩ := trodAll_cons h
    have hr := ht t (by simp)
    have hlt : ∀ x ∈ a, x.block < W.heap.size := by obtain ⟨m, hm⟩ := h1; exact DataW.trod_lt m _ _ _ hm
    exact trodAll_cons_mk (Below.trod hl hr.1 hr.2 h1 hb hlt) (ih vs1 ds1 b (fun t' h' => ht t' (by simp [h'])) h2)

/-- A law's 'post': it returned true, and wrote nothing that was there. -/
theorem law_post {f : Func} {s : ChangeSpec} {W W' : World} {args : Array Value} {ds gs : List (DataW H)} {before : List MemPlace} {tb : TypeId}
    (hl : laidOutB P = true) (ht : P.underlying tb = some .bool) (hres : f.resultTypes = #[tb]) (hvars : s.vars = [])
    (hread : (f.params.toList.all fun t => P.readableRec t && decide (t < P.types.size)) = true)
    (hW : DataW.Whole enc P f.params.toList s.vars false W args.toList ds gs before)
    (hfn : s.fn H (ds ++ gs) = { results := [.lit (.bool true)], args := ds }) (hb : Below W.heap.size W W') :
    s.post enc P f false true false false W args (.bool true) W' := by
  have hW' := hW
  obtain ⟨p, q, hA, hV, hps, hfz, hnd⟩ := hW
  refine ⟨ds, gs, before, [], p, [], hW', ?_, ?_, ?_, hb.frame _, fun h => by cases h⟩
  · rw [hfn, hres]
    exact trodAll_mk1 (shut_bool ht _)
  · rw [hfn]
    exact trodAll_below hl hb _ _ _ _ (fun t ht => by have := List.all_eq_true.1 hread t ht; simpa using this) hA
  · rw [hfn, hvars]
    exact rfl

/-! what came in, opened -/
theorem word_of {x : Int} (h : (Lit.int .u64 x).wf = true) : ∃ u : UInt64, x = wd u := by
  simp [Lit.wf, IntKind.min, IntKind.max, IntKind.signed, IntKind.bits] at h
  refine ⟨UInt64.ofNat x.toNat, ?_⟩
  rw [wd_lit _ (by omega)]; omega
theorem byte_of {x : Int} (h : (Lit.int .u8 x).wf = true) : ∃ b : UInt8, x = (b.toNat : Int) := by
  simp [Lit.wf, IntKind.min, IntKind.max, IntKind.signed, IntKind.bits] at h
  refine ⟨UInt8.ofNat x.toNat, ?_⟩
  rw [UInt8.toNat_ofNat']; omega
theorem i64_of {x : Int} (h : (Lit.int .i64 x).wf = true) : -9223372036854775808 ≤ x ∧ x ≤ 9223372036854775807 := by
  simp [Lit.wf, IntKind.min, IntKind.max, IntKind.signed, IntKind.bits] at h
  omega
section
variable {w : World} {base : Nat} {spare : Nat → Bool} {held : Bool} {r : Reach} {b0 : Nat} {t : TypeId} {v : Value} {d : DataW H} {p : List MemPlace}
theorem open_word (ht : P.underlying t = some (.int .u64)) (hv : Value.okWide P w r b0 t v) (h : DataW.Trod enc P w base spare held t v d p) : ∃ u, v = .int .u64 (wd u) := by
  obtain ⟨x, rfl, _, _, hw⟩ := open_int ht hv h
  obtain ⟨u, rfl⟩ := word_of hw
  exact ⟨u, rfl⟩
theorem open_byte (ht : P.underlying t = some (.int .u8)) (hv : Value.okWide P w r b0 t v) (h : DataW.Trod enc P w base spare held t v d p) : ∃ b : UInt8, v = .int .u8 (b.toNat : Int) := by
  obtain ⟨x, rfl, _, _, hw⟩ := open_int ht hv h
  obtain ⟨u, rfl⟩ := byte_of hw
  exact ⟨u, rfl⟩
theorem open_i64 (ht : P.underlying t = some (.int .i64)) (hv : Value.okWide P w r b0 t v) (h : DataW.Trod enc P w base spare held t v d p) : ∃ x, v = .int .i64 x ∧ -9223372036854775808 ≤ x ∧ x ≤ 9223372036854775807 := by
  obtain ⟨x, rfl, _, _, hw⟩ := open_int ht hv h
  exact ⟨x, rfl, i64_of hw⟩
theorem open_str (ht : P.underlying t = some .string) (hv : Value.okWide P w r b0 t v) (h : DataW.Trod enc P w base spare held t v d p) : ∃ s, v = .string s ∧ s.size ≤ maxLen := by
  obtain ⟨s, rfl, _, _, hs⟩ := open_string ht hv h
  exact ⟨s, rfl, hs⟩
theorem weights_cons {n : Nat} {ts : List TypeId} {ds : List (DataW H)} (h : (DataW.weightsEach P (t :: ts) (d :: ds)).all (fun x => decide (x ≤ n)) = true) :
    (d.weights P t).all (fun x => decide (x ≤ n)) = true ∧ (DataW.weightsEach P ts ds).all (fun x => decide (x ≤ n)) = true := by
  simp only [DataW.weightsEach, List.all_append, Bool.and_eq_true] at h
  exact h
/-- a slice whose elements are read, one by one: each element's cells are 'enc x' -/
theorem open_list {α : Type} {e : TypeId} {sz : Nat} (cs : α → List Value) (hcs : ∀ x, (cs x).length = sz) (ht : P.underlying t = some (.slice e)) (hc : P.cellsOf e = sz)
    (hel : ∀ (n : Nat) (l : List Value) (y : DataW H × List MemPlace), DataW.trod enc P w base (fun _ => true) held n e l = some y → ∃ x, l = cs x)
    (hv : Value.okWide P w r b0 t v) (h : DataW.Trod enc P w base (fun _ => true) held t v d p) :
    ∃ l : List α, RdC w sz v l.length (l.flatMap cs) ∧ ∀ n, (d.weights P t).all (fun x => decide (x ≤ n)) = true → l.length * P.bytesOf e ≤ n := by
  obtain ⟨a, len, cap, rfl⟩ := okWide_slice ht hv
  obtain ⟨fuel, hf⟩ := h
  rcases Go.Deep.open_slice ht hf with ⟨hcs0, hx⟩ | ⟨a', len', cap', m, n, D, Pl, hcs1, hb, hl, hm, hmm, hx, hi⟩
  · simp [Value.cells] at hcs0
    obtain ⟨rfl, rfl, rfl⟩ := hcs0
    exact ⟨[], RdC.nil w sz, fun n _ => by simp⟩
  · simp [Value.cells] at hcs1
    obtain ⟨rfl, rfl, rfl⟩ := hcs1
    simp only [if_true] at hmm
    subst hmm
    have hall : ∀ k, k ≤ len → ∃ l : List α, l.length = k ∧ ∀ j u, (l.flatMap cs)[j]? = some u → w.cell? (a'.add j) = some u := by
      intro k
      induction k with
      | zero => intro _; exact ⟨[], rfl, fun j u hu => by simp at hu⟩
      | succ k ih =>
        intro hk
        obtain ⟨l, hll, hlc⟩ := ih (by omega)
        obtain ⟨c', hc1, hc2⟩ := hi k (by omega)
        obtain ⟨x, rfl⟩ := hel n c' _ hc2
        obtain ⟨_, hcl, hat⟩ := World.cells?_some hc1
        refine ⟨l ++ [x], by simp [hll], fun j u hu => ?_⟩
        have hlen : (l.flatMap cs).length = k * sz := by
          rw [List.length_flatMap]
          have : l.map (fun x => (cs x).length) = l.map (fun _ => sz) := List.map_congr_left (fun x _ => hcs x)
          rw [this, List.map_const', List.sum_replicate_nat, hll]
        rw [List.flatMap_append, List.flatMap_singleton, List.getElem?_append] at hu
        split at hu
        · exact hlc j u hu
        · rename_i hge
          have hj : j - k * sz < sz := by
            have := (List.getElem?_eq_some_iff.1 hu).1
            rw [hcs, hlen] at this; exact this
          have h2 := hat (j - k * sz) (by rw [hc]; exact hj)
          rw [hlen] at hu hge
          rw [hc, Go.Deep.add_add, show k * sz + (j - k * sz) = j by omega] at h2
          exact h2.trans hu
    obtain ⟨l, hll, hlc⟩ := hall len (Nat.le_refl _)
    subst hll
    refine ⟨l, ⟨?_, some a', m, rfl, hl, hm, (fun e => by cases e), fun ad had => by cases had; exact hlc⟩, fun q hq => ?_⟩
    · rw [List.length_flatMap]
      have : l.map (fun x => (cs x).length) = l.map (fun _ => sz) := List.map_congr_left (fun x _ => hcs x)
      rw [this, List.map_const', List.sum_replicate_nat]
    · have hd : d = .slice ((List.range l.length).map D) ((List.range (m - l.length)).map fun j => D (l.length + j)) := (Prod.mk.injEq .. ▸ hx).1
      rw [hd] at hq
      simp only [DataW.weights, ht, List.all_cons, Bool.and_eq_true, decide_eq_true_eq, List.length_map, List.length_range] at hq
      exact Nat.le_trans (Nat.mul_le_mul_right _ (Nat.le_add_right _ _)) hq.1
theorem word_cells {e : TypeId} (ht : P.underlying e = some (.int .u64)) (n : Nat) (l : List Value) (y : DataW H × List MemPlace) (h : DataW.trod enc P w base (fun _ => true) held n e l = some y) : ∃ x : UInt64, l = [u64 x] := by
  obtain ⟨x, rfl, _, hw⟩ := DataW.trod_int ht h
  obtain ⟨u, rfl⟩ := word_of hw
  exact ⟨u, rfl⟩
theorem word_flat (l : List UInt64) : l.flatMap (fun u => [u64 u]) = l.map u64 := by induction l <;> simp_all
end
end
end Go.Proofs.YtleoeccjnchclaaDoor
