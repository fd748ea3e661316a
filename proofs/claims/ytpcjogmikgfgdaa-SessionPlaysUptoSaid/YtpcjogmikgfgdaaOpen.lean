/- What comes in, opened with its bounds: slices and structs, each part with its datum; lists of texts. No condition; no program of its own. -/
import Derived.Test.YtpcjogmikgfgdaaKit
import Derived.Test.YtpcjogmikgfgdaaWrap
namespace Go.Proofs.Ytpcjogmikgfgdaa
open Go.ChangeShapes Go.WideShapes Go.ChangeAt Go.RowKit Go.Deep
/-- all weights are within the reach -/
def Wt {H : Type} (P : Program) (t : TypeId) (d : DataW H) : Prop := (d.weights P t).all (fun x => decide (x ≤ reachBytes)) = true
section
variable {H : Type} {enc : TypeId × Value → H} {P : Program} {w : World} {base : Nat} {held : Bool} {t : TypeId} {d : DataW H} {p : List MemPlace}
theorem weightsAll_mem {e : TypeId} {l : List (DataW H)} {x : DataW H} (hx : x ∈ l) (h : (DataW.weightsAll P e l).all (fun x => decide (x ≤ reachBytes)) = true) : Wt P e x := by
  induction l with
  | nil => cases hx
  | cons y l ih =>
    simp only [DataW.weightsAll, List.all_append, Bool.and_eq_true] at h
    rcases List.mem_cons.1 hx with rfl | hx
    · exact h.1
    · exact ih hx h.2
theorem weightsEach_at {ts : List TypeId} {ds : List (DataW H)} (h : (DataW.weightsEach P ts ds).all (fun x => decide (x ≤ reachBytes)) = true) : ∀ (j : Nat) (t : TypeId) (x : DataW H), ts[j]? = some t → ds[j]? = some x → Wt P t x := by
  induction ts generalizing ds with
  | nil => intro j t x ht; simp at ht
  | cons t0 ts ih =>
    intro j t x ht hx
    cases ds with
    | nil => simp at hx
    | cons d0 ds =>
      simp only [DataW.weightsEach, List.all_append, Bool.and_eq_true] at h
      cases j with
      | zero =>
        simp only [List.getElem?_cons_zero, Option.some.injEq] at ht hx
        subst ht; subst hx
        exact h.1
      | succ j => exact ih h.2 j t x (by simpa using ht) (by simpa using hx)
/-- a slice opened, each element with its datum -/
theorem open_listR {α : Type} {e : TypeId} {sz : Nat} (cs : α → List Value) (Q : α → DataW H → Prop) (hcs : ∀ x, (cs x).length = sz) (ht : P.underlying t = some (.slice e)) (hc : P.cellsOf e = sz)
    (hel : ∀ (n : Nat) (l : List Value) (y : DataW H × List MemPlace), DataW.trod enc P w base (fun _ => true) held n e l = some y → Wt P e y.1 → ∃ x, l = cs x ∧ Q x y.1)
    {fuel : Nat} {c : Value} (hf : DataW.trod enc P w base (fun _ => true) held fuel t [c] = some (d, p)) (hw : Wt P t d) :
    ∃ l : List α, RdC w sz c l.length (l.flatMap cs) ∧ l.length * P.bytesOf e ≤ reachBytes ∧ ∀ x ∈ l, ∃ d', Q x d' := by
  rcases Go.Deep.open_slice ht hf with ⟨hcs0, hx⟩ | ⟨a', len', cap', m, n, D, Pl, hcs1, hb, hl, hm, hmm, hx, hi⟩
  · cases List.singleton_inj.1 hcs0
    exact ⟨[], RdC.nil w sz, by simp, fun x hx => by cases hx⟩
  · cases List.singleton_inj.1 hcs1
    simp only [if_true] at hmm
    subst hmm
    have hd : d = .slice ((List.range len').map D) ((List.range (m - len')).map fun j => D (len' + j)) := (Prod.mk.injEq .. ▸ hx).1
    unfold Wt at hw
    rw [hd] at hw
    simp only [DataW.weights, ht, List.all_cons, List.all_append, Bool.and_eq_true, decide_eq_true_eq, List.length_map, List.length_range] at hw
    have hall : ∀ k, k ≤ len' → ∃ l : List α, l.length = k ∧ (∀ j u, (l.flatMap cs)[j]? = some u → w.cell? (a'.add j) = some u) ∧ ∀ x ∈ l, ∃ d', Q x d' := by
      intro k
      induction k with
      | zero => intro _; exact ⟨[], rfl, fun j u hu => by simp at hu, fun x hx => by cases hx⟩
      | succ k ih =>
        intro hk
        obtain ⟨l, hll, hlc, hlq⟩ := ih (by omega)
        obtain ⟨c', hc1, hc2⟩ := hi k (by omega)
        obtain ⟨x, rfl, hq⟩ := hel n c' _ hc2 (weightsAll_mem (List.mem_map.2 ⟨k, List.mem_range.2 (by omega), rfl⟩) hw.2.1)
        obtain ⟨_, hcl, hat⟩ := World.cells?_some hc1
        refine ⟨l ++ [x], by simp [hll], fun j u hu => ?_, fun y hy => ?_⟩
        · have hlen : (l.flatMap cs).length = k * sz := by
            rw [List.length_flatMap]
            have : l.map (fun x => (cs x).length) = l.map (fun _ => sz) := List.map_congr_left (fun x _ => hcs x)
            rw [this, List.map_const', List.sum_replicate_nat, hll]
          rw [List.flatMap_append, List.flatMap_singleton, List.getElem?_append] at hu
          split at hu
          · exact hlc j u hu
          · rename_i hge
            have hj : j - k * sz < sz := by
              have := (List.getElem?_eq_some_iff.1 hu).1
              rw [hcs, hlen] at this; exact this
            have h2 := hat (j - k * sz) (by rw [hc]; exact hj)
            rw [hlen] at hu hge
            rw [hc, Go.Deep.add_add, show k * sz + (j - k * sz) = j by omega] at h2
            exact h2.trans hu
        · rcases List.mem_append.1 hy with hy | hy
          · exact hlq y hy
          · rw [List.mem_singleton.1 hy]; exact ⟨_, hq⟩
    obtain ⟨l, hll, hlc, hlq⟩ := hall len' (Nat.le_refl _)
    subst hll
    refine ⟨l, ⟨?_, some a', m, rfl, hl, hm, (fun e => by cases e), fun ad had => by cases had; exact hlc⟩, Nat.le_trans (Nat.mul_le_mul_right _ (Nat.le_add_right _ _)) hw.1, hlq⟩
    rw [List.length_flatMap]
    have : l.map (fun x => (cs x).length) = l.map (fun _ => sz) := List.map_congr_left (fun x _ => hcs x)
    rw [this, List.map_const', List.sum_replicate_nat]
/-- a struct whose fields are one cell each, each field with its datum's weights -/
theorem struct_readW {spare : Nat → Bool} {fs : Array Field} {fuel : Nat} {cs : List Value} {x : DataW H × List MemPlace} (he : P.underlying t = some (.struct fs)) (hone : oneCellFields P fs = true) (hC : P.cellsOf t = fs.size)
    (h : DataW.trod enc P w base spare held fuel t cs = some x) (hw : Wt P t x.1) :
    cs.length = fs.size ∧ ∀ (j : Nat) (f : Field), fs[j]? = some f → ∃ (v : Value) (n : Nat) (y : DataW H × List MemPlace), cs[j]? = some v ∧ DataW.trod enc P w base spare held n f.type [v] = some y ∧ Wt P f.type y.1 := by
  obtain ⟨ys, n', hn', hy, hlen, hyl, hf⟩ := DataW.trod_struct he h
  rw [hC] at hlen
  refine ⟨hlen, fun j f hj => ?_⟩
  obtain ⟨ho, hk⟩ := hone_of hone j f hj
  have hjl : j < fs.size := (Array.getElem?_eq_some_iff.1 hj).1
  have h1 := hf j f hj
  rw [ho, hk] at h1
  have hone' : (cs.drop j).take 1 = [cs[j]'(by omega)] := by
    rw [List.drop_eq_getElem_cons (by omega)]
    rfl
  rw [hone'] at h1
  have hys : ys[j]? = some (ys[j]'(by omega)) := List.getElem?_eq_getElem (by omega)
  refine ⟨_, n', _, List.getElem?_eq_getElem (by omega), h1.trans hys, ?_⟩
  have hx : x.1 = .agg (ys.map (·.1)) := by rw [hy]
  unfold Wt at hw
  rw [hx] at hw
  simp only [DataW.weights, he] at hw
  refine weightsEach_at hw j f.type _ ?_ ?_
  · rw [List.getElem?_map, Array.getElem?_toList, hj]; rfl
  · rw [List.getElem?_map, hys]; rfl
theorem one_flat (l : List ByteArray) : l.flatMap (fun s => [Value.string s]) = l.map Value.string := by induction l <;> simp_all
/-- a list of texts -/
theorem open_texts {e : TypeId} (ht : P.underlying t = some (.slice e)) (he : P.underlying e = some .string) (hc : P.cellsOf e = 1) {fuel : Nat} {c : Value} (hf : DataW.trod enc P w base (fun _ => true) held fuel t [c] = some (d, p)) (hw : Wt P t d) :
    ∃ l : List ByteArray, RdC w 1 c l.length (l.map .string) ∧ l.length * P.bytesOf e ≤ reachBytes ∧ ∀ s ∈ l, s.size ≤ maxLen := by
  obtain ⟨l, h1, h2, h3⟩ := open_listR (fun s : ByteArray => [Value.string s]) (fun s _ => s.size ≤ maxLen) (fun _ => rfl) ht hc (fun n l y h _ => by
    obtain ⟨s, hs, _, hl⟩ := DataW.trod_string he h
    exact ⟨s, hs, hl⟩) hf hw
  rw [one_flat] at h1
  exact ⟨l, h1, h2, fun s hs => by obtain ⟨_, h⟩ := h3 s hs; exact h⟩
end
theorem trod_one {H : Type} {enc : TypeId × Value → H} {P : Program} {w : World} {base : Nat} {spare : Nat → Bool} {held : Bool} {t : TypeId} {v : Value} {d : DataW H} {p : List MemPlace} (h : DataW.Trod enc P w base spare held t v d p) (hs : ∃ a n c, v = .slice a n c) :
    ∃ fuel, DataW.trod enc P w base spare held fuel t [v] = some (d, p) := by
  obtain ⟨a, n, c, rfl⟩ := hs
  obtain ⟨fuel, hf⟩ := h
  exact ⟨fuel, hf⟩
end Go.Proofs.Ytpcjogmikgfgdaa
