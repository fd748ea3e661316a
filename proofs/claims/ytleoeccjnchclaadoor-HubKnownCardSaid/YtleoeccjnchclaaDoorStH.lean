/- A script's step for hubs as it comes in. No condition. -/
import Derived.Test.YtleoeccjnchclaaDoorWrapG
import Derived.Deep.Fields
namespace Go.Proofs.YtleoeccjnchclaaDoor
open Go.ChangeShapes Go.WideShapes Go.ChangeAt Go.RowKit Go.Deep

/-- a step as it comes in -/
structure So where
  who : Int
  do_ : Int
  ses : Int
  key : ByteArray
  text : ByteArray
  big : Int
def soCells (o : So) : List Value := [.int .i64 o.who, .int .i64 o.do_, .int .i64 o.ses, .string o.key, .string o.text, .int .i64 o.big]
section
variable {H : Type} {enc : TypeId × Value → H} {P : Program} {w : World} {base : Nat} {spare : Nat → Bool} {held : Bool}
theorem struct_readD {t : TypeId} {fs : Array Field} {fuel : Nat} {cs : List Value} {x : DataW H × List MemPlace} (he : P.underlying t = some (.struct fs)) (hone : oneCellFields P fs = true) (hC : P.cellsOf t = fs.size)
    (h : DataW.trod enc P w base spare held fuel t cs = some x) :
    cs.length = fs.size ∧ ∀ (j : Nat) (f : Field), fs[j]? = some f → ∃ (v : Value) (n : Nat) (y : DataW H × List MemPlace), cs[j]? = some v ∧ DataW.trod enc P w base spare held n f.type [v] = some y := by
  obtain ⟨ys, n', hn', hy, hlen, hyl, hf⟩ := DataW.trod_struct he h
  rw [hC] at hlen
  refine ⟨hlen, fun j f hj => ?_⟩
  obtain ⟨ho, hk⟩ := hone_of hone j f hj
  have hjl : j < fs.size := (Array.getElem?_eq_some_iff.1 hj).1
  have h1 := hf j f hj
  rw [ho, hk] at h1
  have hone' : (cs.drop j).take 1 = [cs[j]'(by omega)] := by
    rw [List.drop_eq_getElem_cons (by omega)]
    rfl
  rw [hone'] at h1
  have hys : ys[j]? = some (ys[j]'(by omega)) := List.getElem?_eq_getElem (by omega)
  exact ⟨_, n', _, List.getElem?_eq_getElem (by omega), h1.trans hys⟩
end
theorem flat_atD {α : Type} (f : α → List Value) (n : Nat) (hf : ∀ x, (f x).length = n) (l : List α) (k j : Nat) (hk : k < l.length) (hj : j < n) : (l.flatMap f)[k * n + j]? = (f l[k])[j]? := by
  induction l generalizing k with
  | nil => simp at hk
  | cons x l ih =>
    rw [List.flatMap_cons]
    cases k with
    | zero =>
      rw [Nat.zero_mul, Nat.zero_add, List.getElem?_append_left (by rw [hf]; exact hj)]
      rfl
    | succ k =>
      have := ih k (by simpa using hk)
      rw [List.getElem?_append_right (by rw [hf, Nat.succ_mul]; omega), hf, show (k + 1) * n + j - n = k * n + j by rw [Nat.succ_mul]; omega]
      exact this

/-- a step whose numbers and texts are Go's -/
abbrev SoB := { o : So // (Lit.int .i64 o.ses).wf = true ∧ o.key.size ≤ maxLen ∧ o.text.size ≤ maxLen ∧ (Lit.int .i64 o.big).wf = true }
def sob (o : SoB) : List Value := soCells o.1
theorem sob_len (o : SoB) : (sob o).length = 6 := rfl
section
variable {H : Type} {enc : TypeId × Value → H} {w : World} {base : Nat} {held : Bool}
theorem so_read (n : Nat) (l : List Value) (y : DataW H × List MemPlace) (h : DataW.trod enc Tryd.prog w base (fun _ => true) held n 27 l = some y) : ∃ x : SoB, l = sob x := by
  obtain ⟨hl, hf⟩ := struct_readD Tryd.underlying27 (by kernel_rfl) (by kernel_rfl) h
  match l, hl with
  | [c0, c1, c2, c3, c4, c5], _ =>
    obtain ⟨v0, n0, y0, e0, t0⟩ := hf 0 _ rfl
    obtain ⟨v1, n1, y1, e1, t1⟩ := hf 1 _ rfl
    obtain ⟨v2, n2, y2, e2, t2⟩ := hf 2 _ rfl
    obtain ⟨v3, n3, y3, e3, t3⟩ := hf 3 _ rfl
    obtain ⟨v4, n4, y4, e4, t4⟩ := hf 4 _ rfl
    obtain ⟨v5, n5, y5, e5, t5⟩ := hf 5 _ rfl
    cases e0; cases e1; cases e2; cases e3; cases e4; cases e5
    obtain ⟨x0, g0, _, _⟩ := DataW.trod_int Tryd.underlying3 t0
    obtain ⟨x1, g1, _, _⟩ := DataW.trod_int Tryd.underlying3 t1
    obtain ⟨x2, g2, _, hw⟩ := DataW.trod_int Tryd.underlying3 t2
    obtain ⟨x3, g3, _, hs⟩ := DataW.trod_string Tryd.underlying9 t3
    obtain ⟨x4, g4, _, hs4⟩ := DataW.trod_string Tryd.underlying9 t4
    obtain ⟨x5, g5, _, hw5⟩ := DataW.trod_int Tryd.underlying3 t5
    cases g0; cases g1; cases g2; cases g3; cases g4; cases g5
    exact ⟨⟨⟨x0, x1, x2, x3, x4, x5⟩, hw, hs, hs4, hw5⟩, rfl⟩
end
/-- the cells of step k of a script -/
theorem so_at {w : World} {a : Option Addr} {n cap : Nat} {l : List SoB} (h : RdC w 6 (.slice a n cap) n (l.flatMap sob)) (k : Nat) (hk : k < l.length) :
    ∃ g off, a = some ⟨g, off, none⟩ ∧ w.cell? ⟨g, off + k * 6, none⟩ = some (.int .i64 l[k].1.who) ∧ w.cell? ⟨g, off + k * 6 + 1, none⟩ = some (.int .i64 l[k].1.do_) ∧ w.cell? ⟨g, off + k * 6 + 2, none⟩ = some (.int .i64 l[k].1.ses) ∧
      w.cell? ⟨g, off + k * 6 + 3, none⟩ = some (.string l[k].1.key) ∧ w.cell? ⟨g, off + k * 6 + 4, none⟩ = some (.string l[k].1.text) ∧ w.cell? ⟨g, off + k * 6 + 5, none⟩ = some (.int .i64 l[k].1.big) := by
  have hf := fun j hj => flat_atD sob 6 sob_len l k j hk hj
  have hpos : 0 < (l.flatMap sob).length := by
    have := hf 0 (by decide)
    have h2 : (sob l[k])[0]? = some (.int .i64 l[k].1.who) := rfl
    rw [h2] at this
    have := (List.getElem?_eq_some_iff.1 this).1
    omega
  obtain ⟨g, off, rfl, hc⟩ := h.at hpos
  refine ⟨g, off, rfl, ?_, ?_, ?_, ?_, ?_, ?_⟩
  · exact hc (k * 6 + 0) _ (by rw [hf 0 (by decide)]; rfl)
  · rw [Nat.add_assoc]; exact hc (k * 6 + 1) _ (by rw [hf 1 (by decide)]; rfl)
  · rw [Nat.add_assoc]; exact hc (k * 6 + 2) _ (by rw [hf 2 (by decide)]; rfl)
  · rw [Nat.add_assoc]; exact hc (k * 6 + 3) _ (by rw [hf 3 (by decide)]; rfl)
  · rw [Nat.add_assoc]; exact hc (k * 6 + 4) _ (by rw [hf 4 (by decide)]; rfl)
  · rw [Nat.add_assoc]; exact hc (k * 6 + 5) _ (by rw [hf 5 (by decide)]; rfl)
end Go.Proofs.YtleoeccjnchclaaDoor
