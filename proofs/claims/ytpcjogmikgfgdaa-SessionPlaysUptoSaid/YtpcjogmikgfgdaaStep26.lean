/- A step of pantrylaw26's scripts: its cells, and how a script is read. No condition. -/
import Derived.Test.YtpcjogmikgfgdaaOpen
import Derived.Test.YtpcjogmikgfgdaaSMap
namespace Go.Proofs.Ytpcjogmikgfgdaa
open Go.ChangeShapes Go.WideShapes Go.ChangeAt Go.RowKit Go.Deep
structure St where
  who : Int
  do_ : Int
  n : Int
  wv : Value
  ws : List ByteArray
def stCells (o : St) : List Value := [.int .i64 o.who, .int .i64 o.do_, .int .i64 o.n, o.wv]
theorem st_len (o : St) : (stCells o).length = 4 := rfl
/-- its words, as they stand in a world -/
structure StOk (w : World) (o : St) : Prop where
  rd : RdC w 1 o.wv o.ws.length (o.ws.map .string)
  by_ : o.ws.length * 16 ≤ 140737488351232
  sz : ∀ k ∈ o.ws, k.size ≤ maxLen
  bn : -9223372036854775808 ≤ o.n ∧ o.n ≤ 9223372036854775807
theorem StOk.below {w w' : World} {o : St} (h : StOk w o) (hb : Below w.heap.size w w') : StOk w' o := ⟨h.rd.below hb, h.by_, h.sz, h.bn⟩
section
variable {H : Type} {enc : TypeId × Value → H} {w : World} {base : Nat} {held : Bool} {d : DataW H} {p : List MemPlace}
theorem st_read (n : Nat) (l : List Value) (y : DataW H × List MemPlace) (h : DataW.trod enc Try.prog w base (fun _ => true) held n 43 l = some y) (hw : Wt Try.prog 43 y.1) : ∃ x : St, l = stCells x ∧ StOk w x := by
  obtain ⟨hl, hf⟩ := struct_readW Try.underlying43 (by kernel_rfl) (by kernel_rfl) h hw
  match l, hl with
  | [c0, c1, c2, c3], _ =>
    obtain ⟨v0, n0, y0, e0, t0, _⟩ := hf 0 _ rfl
    obtain ⟨v1, n1, y1, e1, t1, _⟩ := hf 1 _ rfl
    obtain ⟨v2, n2, y2, e2, t2, _⟩ := hf 2 _ rfl
    obtain ⟨v3, n3, y3, e3, t3, w3⟩ := hf 3 _ rfl
    cases e0; cases e1; cases e2; cases e3
    obtain ⟨x0, g0, _, _⟩ := DataW.trod_int Try.underlying3 t0
    obtain ⟨x1, g1, _, _⟩ := DataW.trod_int Try.underlying3 t1
    obtain ⟨x2, g2, _, hb⟩ := DataW.trod_int Try.underlying3 t2
    obtain ⟨ws, h1, h2, h3⟩ := open_texts Try.underlying41 Try.underlying9 (by kernel_rfl) t3 w3
    cases g0; cases g1; cases g2
    have e16 : Try.prog.bytesOf 9 = 16 := by kernel_rfl
    rw [e16] at h2
    exact ⟨⟨x0, x1, x2, c3, ws⟩, rfl, ⟨h1, h2, h3, i64_of hb⟩⟩
/-- a script -/
theorem open_script26 {fuel : Nat} {c : Value} (hf : DataW.trod enc Try.prog w base (fun _ => true) held fuel 36 [c] = some (d, p)) (hw : Wt Try.prog 36 d) :
    ∃ l : List St, RdC w 4 c l.length (l.flatMap stCells) ∧ l.length * 48 ≤ 140737488351232 ∧ ∀ o ∈ l, StOk w o := by
  obtain ⟨l, h1, h2, h3⟩ := open_listR stCells (fun x _ => StOk w x) st_len Try.underlying36 (by kernel_rfl) st_read hf hw
  have e : Try.prog.bytesOf 43 = 48 := by kernel_rfl
  rw [e] at h2
  exact ⟨l, h1, h2, fun o ho => by obtain ⟨_, h⟩ := h3 o ho; exact h⟩
end
theorem st_at {w : World} {a : Option Addr} {n cap : Nat} {l : List St} (h : RdC w 4 (.slice a n cap) n (l.flatMap stCells)) (k : Nat) (hk : k < l.length) :
    ∃ g off, a = some ⟨g, off, none⟩ ∧ w.cell? ⟨g, off + k * 4, none⟩ = some (.int .i64 l[k].who) ∧ w.cell? ⟨g, off + k * 4 + 1, none⟩ = some (.int .i64 l[k].do_) ∧ w.cell? ⟨g, off + k * 4 + 2, none⟩ = some (.int .i64 l[k].n) ∧ w.cell? ⟨g, off + k * 4 + 3, none⟩ = some l[k].wv := by
  have hf := fun j hj => flat_at stCells 4 st_len l k j hk hj
  have hpos : 0 < (l.flatMap stCells).length := by
    have := hf 0 (by decide)
    have h2 : (stCells l[k])[0]? = some (.int .i64 l[k].who) := rfl
    rw [h2] at this
    have := (List.getElem?_eq_some_iff.1 this).1
    omega
  obtain ⟨g, off, rfl, hc⟩ := h.at hpos
  refine ⟨g, off, rfl, ?_, ?_, ?_, ?_⟩
  · exact hc (k * 4 + 0) _ (by rw [hf 0 (by decide)]; rfl)
  · rw [Nat.add_assoc]; exact hc (k * 4 + 1) _ (by rw [hf 1 (by decide)]; rfl)
  · rw [Nat.add_assoc]; exact hc (k * 4 + 2) _ (by rw [hf 2 (by decide)]; rfl)
  · rw [Nat.add_assoc]; exact hc (k * 4 + 3) _ (by rw [hf 3 (by decide)]; rfl)
end Go.Proofs.Ytpcjogmikgfgdaa
