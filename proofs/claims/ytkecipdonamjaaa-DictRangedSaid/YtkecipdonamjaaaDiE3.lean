/- package dict's Each at int: what it hands back, and its contract for whoever ranges over it. -/
import Derived.Test.YtkecipdonamjaaaDiE2
namespace Go.Proofs.Ytkecipdonamjaaa.Di
open Go.RowKit Go.Shelf
attribute [local go_sem] Oper.semAt_some
set_option maxRecDepth 100000 in
theorem each_in (F : Fence) (n : Nat) (hF : F.fn 35) (hro : F.round = none) (p : Option Addr) (w : World) :
    CallsIn F n Try.prog 35 #[.pointer p] w fun e w' => e = .returned (.func (.func 67) #[] #[.pointer (some ⟨w.heap.size, 0, none⟩)]) ∧ w' = w.alloc (.cells #[.pointer p] 29) := by
  refine callsIn_of_wp Try.func35 rfl hF ?_ hro
  simp only [Try.ntmps35, List.size_toArray, List.length_cons, List.length_nil, Nat.reduceAdd, Nat.reduceSub, Array.replicate_succ, Array.replicate_zero, List.push_toArray, List.append_toArray, List.nil_append, List.cons_append]
  gi_wp2
  go_ret
  exact ⟨rfl, rfl⟩
/-- what a body may not turn: the iterator's own memory -/
def EachS (n0 : Nat) (k : Nat) (t : TypeId) : Prop := n0 ≤ k ∧ (t = 9 ∨ t = 3 ∨ t = 47 ∨ t = 25)
def EachK (n0 : Nat) (A B : World) : Prop := Keep (EachS n0) A B ∧ Late n0 A B
theorem EachK.trans {n0 : Nat} {A B C : World} (h : EachK n0 A B) (h' : EachK n0 B C) : EachK n0 A C := ⟨h.1.trans h'.1, h.2.trans h'.2⟩
theorem EachK.loop (n0 : Nat) (W : World) (l : Nat) (r r' : Loop) (h : W.heap[l]? = some (.loop r)) : EachK n0 W (W.putObj l (.loop r')) := ⟨Keep.putLoop _ W l r _ h, Late.putLoop n0 W l r _ h⟩
theorem each_stops (F : Fence) (n : Nat) (hF : F.fn 67) (hFa : F.fn 68) (hFb : F.fn 99) (hro : F.round = none) (hn : 4 ≤ n) (Bd d : Nat) (M : DM) (n0 : Nat) (w : World) (hn0 : n0 ≤ w.heap.size)
    (hA : Al d Bd M w) (hval : ∀ e ∈ (opn M).flatten, ∃ xx : Int, e.val = [.int .i64 xx]) (hMn : M.n ≤ 8796093022000) :
    SeqV F n Try.prog 67 #[.pointer (some ⟨Bd, 0, none⟩)] etE (EachK n0) (fun pre => pre <+: (opn M).flatten) (fun xs => xs = (opn M).flatten) (fun pre => pre <+: (opn M).flatten) w := fun l J Jx W hW hJ hJx hY h0 =>
  each1_in F n hF hFa hFb hro hn l Bd d M n0 (EachK n0) (fun _ _ h => h) J Jx W (Nat.le_trans hn0 hW.size) hJ hJx hY
    (hA.keep fun k cs t m hk h => (hW.block k (Array.getElem?_eq_some_iff.1 h).1).trans h) hval hMn h0
/-- a nil table: nothing is told -/
theorem each_none (F : Fence) (n : Nat) (hF : F.fn 67) (hro : F.round = none) (Bd : Nat) (Kp : World → World → Prop) (w : World) (hb : w.heap[Bd]? = some (.cells #[.pointer none] 29 (0, 0))) :
    SeqV F n Try.prog 67 #[.pointer (some ⟨Bd, 0, none⟩)] etE Kp (fun _ => False) (fun xs => xs = []) (fun _ => False) w := fun l J Jx W hW _ _ _ h0 => by
  have hb' : W.heap[Bd]? = some (.cells #[.pointer none] 29 (0, 0)) := (hW.block Bd (Array.getElem?_eq_some_iff.1 hb).1).trans hb
  have hcb : W.cell? ⟨Bd, 0, none⟩ = some (.pointer none) := by rw [cell_of_blk hb']; rfl
  have H0 := Lib.hid h0
  clear hb hb' hW h0
  refine callsIn_of_wp Try.func67 rfl hF ?_ hro
  simp only [Try.ntmps67, List.size_toArray, List.length_cons, List.length_nil, Nat.reduceAdd, Nat.reduceSub, Array.replicate_succ, Array.replicate_zero, List.push_toArray, List.append_toArray, List.nil_append, List.cons_append]
  gi_wp2
  refine bodyPost_ret (results_none rfl _ _ _) rfl ?_
  exact ⟨⟨_, rfl⟩, H0.out⟩
end Go.Proofs.Ytkecipdonamjaaa.Di
