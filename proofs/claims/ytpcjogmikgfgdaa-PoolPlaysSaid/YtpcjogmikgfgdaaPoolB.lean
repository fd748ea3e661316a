/- The pool: slices.Clone of candidates, Candidates; slices.Delete at the front, Take. No condition. -/
import Derived.Test.YtpcjogmikgfgdaaPool
import Derived.Deep.DeepAppendRoom
import Derived.StillTailTactics
namespace Go.Proofs.Ytpcjogmikgfgdaa
open Go.RowKit Go.Sort
def CPostC (w : World) (l : List Cd) (e : Ending) (w' : World) : Prop :=
  ∃ v, e = .returned v ∧ w'.ownsRow w.heap.size 73 2 v l.length (clC l) ∧ Below w.heap.size w w'
set_option maxHeartbeats 400000 in
theorem cloneC_any (v : Value) (l : List Cd) (w : World) (h : RdC w 2 v l.length (clC l)) (hb : l.length ≤ 17) :
    Calls Try.prog 79 #[v] w (CPostC w l) := by
  obtain ⟨i0, hi, hz0, hz1, hz2⟩ := info_parts infoC
  have hlen := h.len
  have HL := Lib.hid h
  obtain ⟨h1, a, cap, rfl, h2, h3, h4, h5⟩ := h
  clear h1 h5
  have heq := fun (w : World) (b : Option Addr) (n c : Nat) => Lib.run_eql_slice_nil (P := Try.prog) w 67 73 b n c 0 0 Try.underlying67
  cases a with
  | none =>
    obtain ⟨e1, e2⟩ := h4 rfl
    have e3 : l = [] := by simpa using e1
    subst e3; subst e2
    go_enter Try.func79, Try.ntmps79
    go_wp2
    go_ret
    exact ⟨_, rfl, World.ownsRow_nil _ _ _ _, Below.refl _ _⟩
  | some ad =>
    clear h4
    go_enter Try.func79, Try.ntmps79
    go_wp2_with (at_builtin; refine wpl_append rfl (.tmp 5) (.tmp 6) 67 rfl w.heap.size 73 i0 (.agg #[.string ⟨#[]⟩, .int .u64 0]) 2 24 Try.underlying67 hi hz0 hz1 hz2 rfl (by decide) _ 0 [] rfl (World.ownsRow_lit w #[] 0 (Nat.le_refl _) (by decide) rfl) _ l.length (clC l) rfl (HL.out.below ((Below.refl _ _).alloc (Nat.le_refl _) _)) (one_C l) (by unfold maxLen; omega) (by omega) (by simp) ?_; intro v' w' hown hgrow)
    go_ret
    rw [Nat.zero_add] at hown
    refine ⟨_, rfl, by simpa using hown, ?_⟩
    exact ((Below.refl _ _).alloc (Nat.le_refl _) _).grown hgrow (by simp) (fun k e => by cases e; exact Nat.le_refl _)
theorem candidates_any (w : World) (B p cap : Nat) (vr : Value) (l : List Cd) (h : PoolAt w B p cap vr l) : Calls Try.prog 47 #[.pointer (some ⟨p, 0, none⟩)] w (CPostC w l) := by
  have c1 : w.cell? ⟨p, 1, none⟩ = some vr := h.cell 1
  have hc := cloneC_any vr l w (RdC.of_owns h.row) h.len
  clear h
  go_enter Try.func47, Try.ntmps47
  go_wp2_with fail
  refine hc.mono ?_
  rintro e w' ⟨v, rfl, h1, h2⟩
  obtain ⟨a, c, rfl⟩ := owns_sliceN h1
  have H1 := Lib.hid h1
  have H2 := Lib.hid h2
  clear h1 h2 hc
  go_wp2
  go_ret
  exact ⟨_, rfl, H1.out, H2.out⟩
/-- clear of candidates -/
theorem run_clearC (w : World) (g o n c : Nat) (cur : Array Value) (hg : w.heap[g]? = some (.cells cur 73 (0, 0))) (hfit : o + n * 2 ≤ cur.size) :
    ∃ w' cs', (∀ ty, (Builtin.clear_ #[67] ty #[.slice (some ⟨g, o, none⟩) n c]).run Try.prog w = .ok (.tuple #[]) w') ∧ w'.heap[g]? = some (.cells cs' 73 (0, 0)) ∧ cs'.size = cur.size ∧ cs'.toList.take o = cur.toList.take o ∧ Fr (fun i => i = g) w w' := by
  have hu := Try.underlying67
  cases n with
  | zero => exact ⟨w, cur, fun ty => by simp [Builtin.clear_, run_underlying hu], hg, rfl, rfl, Fr.refl _ _⟩
  | succ n =>
    have hz := Try.zeroValue73
    have hlen : (Builtin.zeroCells (#[.string ⟨#[]⟩, .int .u64 0] : Array Value) (n + 1)).toList.length = (n + 1) * 2 := by simp [Builtin.zeroCells]
    have h1 : ∀ v ∈ (Builtin.zeroCells (#[.string ⟨#[]⟩, .int .u64 0] : Array Value) (n + 1)).toList, v.oneCell' = true := by
      intro v hv
      simp only [Builtin.zeroCells, Array.toList_map, List.mem_map] at hv
      obtain ⟨i, _, rfl⟩ := hv
      have : i % 2 = 0 ∨ i % 2 = 1 := by omega
      rcases this with h | h <;> simp [h] <;> rfl
    have hst := run_storeCells_at (P := Try.prog) g o 73 (Builtin.zeroCells (#[.string ⟨#[]⟩, .int .u64 0] : Array Value) (n + 1)).toList 0 cur w hg (by rw [hlen]; omega) h1
    obtain ⟨cs, hcs⟩ : ∃ cs, (cur.toList.take (o + 0) ++ (Builtin.zeroCells (#[.string ⟨#[]⟩, .int .u64 0] : Array Value) (n + 1)).toList ++ cur.toList.drop (o + 0 + (Builtin.zeroCells (#[.string ⟨#[]⟩, .int .u64 0] : Array Value) (n + 1)).toList.length)).toArray = cs := ⟨_, rfl⟩
    rw [hcs] at hst
    refine ⟨w.setRow g cs, cs, fun ty => ?_, setRow_heap w g cur cs _ _ hg, ?_, ?_, ⟨rfl, rfl, rfl, by simp, fun k _ hk => setRow_other w g k cs hk⟩⟩
    · simp [Builtin.clear_, run_underlying hu, hz, Value.cells, hst, Result.andThen]
    · rw [← hcs]
      simp only [List.size_toArray, List.length_append, List.length_take, List.length_drop, Array.length_toList, hlen]
      omega
    · rw [← hcs]
      show List.take o (List.take o cur.toList ++ _ ++ _) = _
      have hle : o ≤ (List.take o cur.toList).length := by rw [List.length_take, Array.length_toList]; omega
      rw [List.append_assoc, List.take_append_of_le_length hle, List.take_take, Nat.min_self]
end Go.Proofs.Ytpcjogmikgfgdaa
