/- The pool: Drop; candidates compared. No condition. -/
import Derived.Test.YtpcjogmikgfgdaaPoolE
import Derived.Laws.StructEq
namespace Go.Proofs.Ytpcjogmikgfgdaa
open Go.RowKit Go.Sort
def DropPost (w : World) (B p cap : Nat) (vr : Value) (l : List Cd) (k : ByteArray) (e : Ending) (w' : World) : Prop :=
  ∃ vr', e = .returned (.bool (decide ((dropK k l).length < l.length))) ∧ PoolAt w' B p cap vr' (dropK k l) ∧ vr'.ownBlock = vr.ownBlock ∧ Fr (fun i => i = p ∨ vr.ownBlock = some i) w w'
theorem dropK_len (k : ByteArray) (l : List Cd) : (dropK k l).length ≤ l.length := List.length_filter_le _ _
set_option maxHeartbeats 1000000 in
theorem drop_any (w : World) (B p cap : Nat) (vr : Value) (l : List Cd) (k : ByteArray) (h : PoolAt w B p cap vr l) :
    Calls Try.prog 51 #[.pointer (some ⟨p, 0, none⟩), .string k] w (DropPost w B p cap vr l k) := by
  have c1 : w.cell? ⟨p, 1, none⟩ = some vr := h.cell 1
  have hpw := h.lt
  obtain ⟨a, c, rfl⟩ := owns_sliceN h.row
  have H := Lib.hid h
  have HP := Lib.hid (h.quiet (Fr.alloc (fun _ => False) w (.cells #[.string k] 9)))
  have hll : l.length ≤ 17 := h.len
  clear h
  go_enter Try.func51, Try.ntmps51
  go_wp2_with fail
  refine (delfunc_any (w.alloc (.cells #[.string k] 9)) B (.slice a l.length c) l w.heap.size k HP.out.row ((cell_of_blk (alloc_at w (.cells #[.string k] 9)) 0).trans rfl) (fun e => by have := (own_blk H.out.row e).2.1; omega) hll).mono ?_
  rintro e W2 ⟨v', rfl, hr2, hv2, hf2⟩
  have hp2 : W2.heap[p]? = some (.cells #[.int .i64 cap, .slice a l.length c] 106 (0, 0)) := (hf2.block p HP.out.lt HP.out.pr).trans HP.out.blk
  obtain ⟨a', c', rfl⟩ := owns_sliceN hr2
  have p1 : W2.cell? ⟨p, 1, none⟩ = some (.slice a l.length c) := cell_of_blk hp2 1
  have pf1 : W2.frozen? ⟨p, 1, none⟩ = false := free_of_blk hp2 1
  have hdl := dropK_len k l
  have HS := Lib.hid (PoolAt.stored (vr' := .slice a' (dropK k l).length c') hp2 hr2 H.out.bp (by omega) H.out.cap1 H.out.cap2)
  have hvn : ∀ n, (Value.slice a' n c').ownBlock = (Value.slice a l.length c).ownBlock := fun n => by cases a' <;> exact hv2
  have HV := Lib.hid hvn
  have HF := Lib.hid (((Fr.alloc (fun i => i = p ∨ (Value.slice a l.length c).ownBlock = some i) w (.cells #[.string k] 9)).wide hf2 (fun i hi => .inl (.inr hi))).wide (Fr.setCell W2 ⟨p, 1, none⟩ (.slice a' (dropK k l).length c')) (fun i hi => .inl (.inl hi)))
  obtain ⟨n, hn⟩ : ∃ n, (dropK k l).length = n := ⟨_, rfl⟩
  rw [hn] at hdl
  have HN := Lib.hid hn
  have hcmp : decide ((n : Int) < (l.length : Int)) = decide (n < l.length) := by simp
  rw [hn]
  rw [hn] at HS HF
  clear hr2 hp2 hf2 hv2 hn hvn
  go_wp2_with fail
  go_ret
  exact ⟨_, by rw [HN.out]; simp, HS.out, HV.out _, HF.out⟩
def eqC (a b : Cd) : Bool := (a.key.toList == b.key.toList) && (a.rank == b.rank)
theorem eqC_iff (a b : Cd) : eqC a b = true ↔ a = b := by
  obtain ⟨ka, ra⟩ := a
  obtain ⟨kb, rb⟩ := b
  unfold eqC
  rw [Bool.and_eq_true, str_beq]
  simp
theorem run_eqC (a b : Cd) (w : World) : (binOp .eql 73 (.agg #[.string a.key, .int .u64 a.rank]) (.agg #[.string b.key, .int .u64 b.rank])).run Try.prog w = .ok (.bool (eqC a b)) w := by
  have u3 := Try.underlying9
  have a3 := Try.isAgg9
  have z3 := Try.sizeOf9
  have u4 := Try.underlying24
  have a4 := Try.isAgg24
  have z4 := Try.sizeOf24
  have hS : Try.prog.underlying 73 = some (.struct (Try.prog.fieldsOf 73)) := by kernel_rfl
  have hp : Try.prog.stoodInHeld 73 = false := by kernel_rfl
  unfold eqC
  rw [run_eql_struct, show (10000 : Nat) = 9999 + 1 from rfl, run_equalIn_agg w 9999 73 _ _ hS hp]
  simp only [Program.fieldsOf, Try.underlying73]
  go_simp
  by_cases h1 : a.key.toList = b.key.toList
  · rw [if_pos h1]
    by_cases h2 : a.rank = b.rank
    · have h3 : (a.rank : Int) = (b.rank : Int) := by omega
      rw [if_pos h3, h1, h2]
      simp
    · have h3 : ¬ (a.rank : Int) = (b.rank : Int) := by omega
      have h4 : (a.rank == b.rank) = false := beq_eq_false_iff_ne.2 h2
      rw [if_neg h3, h4, Bool.and_false]
  · have h4 : (a.key.toList == b.key.toList) = false := beq_eq_false_iff_ne.2 h1
    rw [if_neg h1, h4, Bool.false_and]
end Go.Proofs.Ytpcjogmikgfgdaa
