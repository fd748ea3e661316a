/- A step of pantrylaw14's scripts: its cells, and how a script is read. No condition. -/
import Derived.Test.YtpcjogmikgfgdaaOpenC
namespace Go.Proofs.Ytpcjogmikgfgdaa
open Go.ChangeShapes Go.WideShapes Go.ChangeAt Go.RowKit Go.Deep
structure Sp where
  who : Int
  do_ : Int
  c : Cd
def spC (o : Sp) : List Value := [.int .i64 o.who, .int .i64 o.do_, .string o.c.key, .int .u64 o.c.rank]
theorem spC_len (o : Sp) : (spC o).length = 4 := rfl
theorem two_of {α : Type} {l : List α} (h : l.length = 2) : ∃ a b, l = [a, b] := by
  match l, h with
  | [a, b], _ => exact ⟨a, b, rfl⟩
theorem four_of {α : Type} {l : List α} (h : l.length = 4) : ∃ a b c d, l = [a, b, c, d] := by
  match l, h with
  | [a, b, c, d], _ => exact ⟨a, b, c, d, rfl⟩
section
variable {H : Type} {enc : TypeId × Value → H} {w : World} {base : Nat} {held : Bool} {d : DataW H} {p : List MemPlace}
set_option maxRecDepth 100000 in
theorem cd_read2 (n : Nat) (l : List Value) (y : DataW H × List MemPlace) (h : DataW.trod enc Try.prog w base (fun _ => true) held n 73 l = some y) : ∃ x : Cd, l = encC x := by
  obtain ⟨y0, y1, n', _, hl, t0, t1⟩ := trod_struct2 Try.underlying73 h
  have ec : Try.prog.cellsOf 73 = 2 := by kernel_rfl
  have e0 : Try.prog.cellsOf 9 = 1 := by kernel_rfl
  have e1 : Try.prog.cellsOf 24 = 1 := by kernel_rfl
  rw [ec] at hl
  obtain ⟨c0, c1, rfl⟩ := two_of hl
  have t0' : DataW.trod enc Try.prog w base (fun _ => true) held n' 9 [c0] = some y0 := by
    have h2 := t0
    dsimp only at h2
    rw [e0] at h2
    exact h2
  have t1' : DataW.trod enc Try.prog w base (fun _ => true) held n' 24 [c1] = some y1 := by
    have h2 := t1
    dsimp only at h2
    rw [e1] at h2
    exact h2
  obtain ⟨s, hs, _, hsl⟩ := DataW.trod_string Try.underlying9 t0'
  obtain ⟨x1, g1, _, hb⟩ := DataW.trod_int Try.underlying24 t1'
  have hs' : c0 = .string s := by cases hs; rfl
  have hx0 : 0 ≤ x1 := by
    have h5 : (Lit.int .u64 x1).wf = true := hb
    simp [Lit.wf, IntKind.min, IntKind.max, IntKind.signed, IntKind.bits] at h5
    omega
  have hx : ((x1.toNat : Nat) : Int) = x1 := Int.toNat_of_nonneg hx0
  refine ⟨⟨s, x1.toNat⟩, ?_⟩
  cases g1
  rw [hs']
  show _ = [Value.string s, Value.int .u64 ((x1.toNat : Nat) : Int)]
  rw [hx]
set_option maxRecDepth 100000 in
theorem sp_read (n : Nat) (l : List Value) (y : DataW H × List MemPlace) (h : DataW.trod enc Try.prog w base (fun _ => true) held n 87 l = some y) (_ : Wt Try.prog 87 y.1) : ∃ x : Sp, l = spC x ∧ True := by
  obtain ⟨ys, n', _, _, hl, hys, hf⟩ := DataW.trod_struct Try.underlying87 h
  have ec : Try.prog.cellsOf 87 = 4 := by kernel_rfl
  have e0 : Try.prog.cellsOf 3 = 1 := by kernel_rfl
  have e2 : Try.prog.cellsOf 73 = 2 := by kernel_rfl
  rw [ec] at hl
  obtain ⟨c0, c1, c2, c3, rfl⟩ := four_of hl
  have t0 : DataW.trod enc Try.prog w base (fun _ => true) held n' 3 (([c0, c1, c2, c3].drop 0).take (Try.prog.cellsOf 3)) = ys[0]? := hf 0 _ rfl
  have t1 : DataW.trod enc Try.prog w base (fun _ => true) held n' 3 (([c0, c1, c2, c3].drop 1).take (Try.prog.cellsOf 3)) = ys[1]? := hf 1 _ rfl
  have t2 : DataW.trod enc Try.prog w base (fun _ => true) held n' 73 (([c0, c1, c2, c3].drop 2).take (Try.prog.cellsOf 73)) = ys[2]? := hf 2 _ rfl
  rw [e0] at t0 t1
  rw [e2] at t2
  have q0 : ∃ y, DataW.trod enc Try.prog w base (fun _ => true) held n' 3 [c0] = some y := by
    have h5 := t0
    rw [List.getElem?_eq_getElem (by rw [hys]; decide)] at h5
    exact ⟨_, h5⟩
  have q1 : ∃ y, DataW.trod enc Try.prog w base (fun _ => true) held n' 3 [c1] = some y := by
    have h5 := t1
    rw [List.getElem?_eq_getElem (by rw [hys]; decide)] at h5
    exact ⟨_, h5⟩
  have q2 : ∃ y, DataW.trod enc Try.prog w base (fun _ => true) held n' 73 [c2, c3] = some y := by
    have h5 := t2
    rw [List.getElem?_eq_getElem (by rw [hys]; decide)] at h5
    exact ⟨_, h5⟩
  obtain ⟨_, q0⟩ := q0
  obtain ⟨_, q1⟩ := q1
  obtain ⟨_, q2⟩ := q2
  obtain ⟨x0, g0, _, _⟩ := DataW.trod_int Try.underlying3 q0
  obtain ⟨x1, g1, _, _⟩ := DataW.trod_int Try.underlying3 q1
  obtain ⟨cd, hcd⟩ := cd_read2 n' _ _ q2
  cases g0
  cases g1
  exact ⟨⟨x0, x1, cd⟩, by rw [hcd]; rfl, trivial⟩
theorem open_script14 {fuel : Nat} {c : Value} (hf : DataW.trod enc Try.prog w base (fun _ => true) held fuel 82 [c] = some (d, p)) (hw : Wt Try.prog 82 d) :
    ∃ l : List Sp, RdC w 4 c l.length (l.flatMap spC) ∧ l.length * 40 ≤ 140737488351232 ∧ ∀ o ∈ l, True := by
  obtain ⟨l, h1, h2, h3⟩ := open_listR (sz := 4) spC (fun _ _ => True) spC_len Try.underlying82 (by kernel_rfl) sp_read hf hw
  have e : Try.prog.bytesOf 87 = 40 := by kernel_rfl
  rw [e] at h2
  exact ⟨l, h1, h2, fun _ _ => trivial⟩
end
end Go.Proofs.Ytpcjogmikgfgdaa
