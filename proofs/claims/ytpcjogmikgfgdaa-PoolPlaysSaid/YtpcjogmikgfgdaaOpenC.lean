/- A list of candidates that comes in is read. No condition. -/
import Derived.Test.YtpcjogmikgfgdaaOpen
import Derived.Test.YtpcjogmikgfgdaaPoolD
namespace Go.Proofs.Ytpcjogmikgfgdaa
open Go.ChangeShapes Go.WideShapes Go.ChangeAt Go.RowKit Go.Deep
section
variable {H : Type} {enc : TypeId × Value → H} {w : World} {base : Nat} {held : Bool} {d : DataW H} {p : List MemPlace}
theorem cd_read (n : Nat) (l : List Value) (y : DataW H × List MemPlace) (h : DataW.trod enc Try.prog w base (fun _ => true) held n 73 l = some y) (hw : Wt Try.prog 73 y.1) : ∃ x : Cd, l = encC x ∧ x.key.size ≤ maxLen := by
  obtain ⟨hl, hf⟩ := struct_readW Try.underlying73 (by kernel_rfl) (by kernel_rfl) h hw
  match l, hl with
  | [c0, c1], _ =>
    obtain ⟨v0, n0, y0, e0, t0, _⟩ := hf 0 _ rfl
    obtain ⟨v1, n1, y1, e1, t1, _⟩ := hf 1 _ rfl
    cases e0; cases e1
    obtain ⟨s, hs, _, hsl⟩ := DataW.trod_string Try.underlying9 t0
    obtain ⟨x1, g1, _, hb⟩ := DataW.trod_int Try.underlying24 t1
    have hs' : c0 = .string s := by cases hs; rfl
    have hx0 : 0 ≤ x1 := by
      have h5 : (Lit.int .u64 x1).wf = true := hb
      simp [Lit.wf, IntKind.min, IntKind.max, IntKind.signed, IntKind.bits] at h5
      omega
    have hx : ((x1.toNat : Nat) : Int) = x1 := Int.toNat_of_nonneg hx0
    refine ⟨⟨s, x1.toNat⟩, ?_, hsl⟩
    cases g1
    rw [hs']
    show _ = [Value.string s, Value.int .u64 ((x1.toNat : Nat) : Int)]
    rw [hx]
theorem open_cands {fuel : Nat} {c : Value} (hf : DataW.trod enc Try.prog w base (fun _ => true) held fuel 67 [c] = some (d, p)) (hw : Wt Try.prog 67 d) :
    ∃ l : List Cd, RdC w 2 c l.length (clC l) ∧ l.length * 24 ≤ 140737488351232 ∧ ∀ o ∈ l, o.key.size ≤ maxLen := by
  obtain ⟨l, h1, h2, h3⟩ := open_listR (sz := 2) encC (fun x _ => x.key.size ≤ maxLen) (fun _ => rfl) Try.underlying67 (by kernel_rfl) cd_read hf hw
  have e : Try.prog.bytesOf 73 = 24 := by kernel_rfl
  rw [e] at h2
  exact ⟨l, h1, h2, fun o ho => by obtain ⟨_, h⟩ := h3 o ho; exact h⟩
end
end Go.Proofs.Ytpcjogmikgfgdaa
