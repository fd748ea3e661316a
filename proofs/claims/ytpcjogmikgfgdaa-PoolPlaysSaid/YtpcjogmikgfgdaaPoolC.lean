/- slices.Delete of the first candidate. No condition. -/
import Derived.Test.YtpcjogmikgfgdaaPoolB
import Derived.Outline
namespace Go.Proofs.Ytpcjogmikgfgdaa
open Go.RowKit Go.Sort
def DelPost (w : World) (B : Nat) (v : Value) (l : List Cd) (e : Ending) (w' : World) : Prop :=
  ∃ v', e = .returned v' ∧ w'.ownsRow B 73 2 v' l.length (clC l) ∧ v'.ownBlock = v.ownBlock ∧ Fr (fun i => v.ownBlock = some i) w w'
theorem clC_cons (c : Cd) (l : List Cd) : clC (c :: l) = encC c ++ clC l := rfl
set_option maxRecDepth 100000 in
set_option maxHeartbeats 2000000 in
theorem deleteC_any (w : World) (B : Nat) (v : Value) (c0 : Cd) (l : List Cd) (h : w.ownsRow B 73 2 v (l.length + 1) (clC (c0 :: l))) (hl : l.length ≤ 17) :
    Calls Try.prog 80 #[v, .int .i64 0, .int .i64 1] w (DelPost w B v l) := by
  obtain ⟨hlen, ⟨_, h0⟩ | ⟨g, cap, cur, rfl, hbase, hb, h1, h2, h3, h4⟩⟩ := h
  · cases h0
  obtain ⟨i0, hi, hz0, hz1, hz2⟩ := info_parts infoC
  obtain ⟨n, hn⟩ : ∃ n, l.length = n := ⟨_, rfl⟩
  rw [hn] at h1 h4 hl hlen ⊢
  have hb' : w.drew.heap[g]? = some (.cells cur 73 (0, 0)) := hb
  have hown0 : w.drew.ownsRow B 73 2 (.slice (some ⟨g, 0, none⟩) 0 cap) 0 [] := ⟨rfl, .inr ⟨g, cap, cur, rfl, hbase, hb', Nat.zero_le _, h2, h3, by simp⟩⟩
  obtain ⟨ax, hax, hnews0⟩ : ∃ ax : Addr, (if cap = 1 then some (⟨g, 0, none⟩ : Addr) else some ⟨g, 2, none⟩) = some ax ∧ (n ≠ 0 → ax = ⟨g, 2, none⟩) := by
    by_cases hc1 : cap = 1
    · exact ⟨⟨g, 0, none⟩, by rw [if_pos hc1], fun h => by omega⟩
    · exact ⟨⟨g, 2, none⟩, by rw [if_neg hc1], fun _ => rfl⟩
  have hnews : ∀ j u, (clC l)[j]? = some u → w.drew.cell? (ax.add j) = some u := by
    intro j u hu
    rw [hnews0 (by rintro rfl; rw [List.length_eq_zero_iff] at hn; rw [hn] at hu; cases hu)]
    have hj : j < n * 2 := by have := (List.getElem?_eq_some_iff.1 hu).1; rw [clC_len, hn] at this; exact this
    have hadd : (⟨g, 2, none⟩ : Addr).add j = ⟨g, 2 + j, none⟩ := by simp [Addr.add]
    rw [hadd, cell_of_blk hb' (2 + j), ← Array.getElem?_toList, ← List.getElem?_take_of_lt (show 2 + j < (n + 1) * 2 by omega), h4, clC_cons, List.getElem?_append_right (by simp [encC])]
    simpa [encC] using hu
  obtain ⟨w1, hap, hown1, hg1⟩ := run_append_own_spare (P := Try.prog) w.drew B 67 67 73 i0 2 Try.underlying67 hi hz1 g 0 cap [] hown0 ax n (cap - 1) (clC l) (by rw [clC_len, hn]) hnews (one_C l) (by omega)
  obtain ⟨-, ⟨he, _⟩ | ⟨g', cap', cur1, he, _, hb1, k1, _, k3, k4⟩⟩ := hown1
  · cases he
  cases he
  obtain ⟨w2, cs, hcl, hb2, k5, k6, hf2⟩ := run_clearC w1 g (n * 2) 1 (cap - n) cur1 hb1 (by rw [k3]; omega)
  simp only [Nat.zero_add, List.nil_append] at hap k4
  have HF : Hid (Fr (fun i => some g = some i) w w2) := ((Fr.drew (fun i => some g = some i) w).wide (Fr.of_grownBy hg1) (fun i hi => .inl hi)).wide hf2 (fun i hi => .inl (by rw [hi]))
  have HR : Hid (w2.ownsRow B 73 2 (.slice (some ⟨g, 0, none⟩) n cap) l.length (clC l)) :=
    ⟨clC_len l, .inr ⟨g, cap, cs, by rw [hn], hbase, hb2, by omega, h2, by rw [k5, k3], by rw [hn, k6, k4]⟩⟩
  have hcap : n + 1 ≤ cap := h1
  have hcm : (cap : Int) ≤ 9223372036854775807 := by unfold maxLen at h2; omega
  have hle1 : (1 : Int) ≤ (n : Int) + 1 := by omega
  have hne : cap ≠ n := by omega
  clear hnews0 hb hb' hown0 hnews hg1 hb1 k1 k3 k4 hb2 k5 k6 hf2 hi hz0 hz1 hz2 h3 h4 hlen hn h1 hbase
  go_enter Try.func80, Try.ntmps80
  go_upto_region 5 with fail
  refine wp_region_still_tail 6 (by kernel_rfl) (by kernel_rfl) ?_
  simp only [List.take_succ_cons, List.take_zero, List.drop_succ_cons, List.drop_zero]
  iterate 6 still_step
  refine wpStill_nil ?_
  change wpList _ _ _ _ _ w.drew
  refine wpl_value (v := .slice (some ⟨g, 0, none⟩) n cap) (w' := w1) rfl ?_ ?_
  · simp [execOp, resolve, invoke, builtin, Act.eval, Act.put, hax, hap, Result.andThen]
  clear hap
  go_wp2_with fail
  go_ret
  exact ⟨_, rfl, HR.out, rfl, HF.out⟩
def TakePost (w : World) (B p cap : Nat) (vr : Value) (l : List Cd) (e : Ending) (w' : World) : Prop :=
  match l with
  | [] => e = .returned (.tuple #[.agg #[.string ⟨#[]⟩, .int .u64 0], .bool false]) ∧ PoolAt w' B p cap vr [] ∧ Fr (fun i => i = p ∨ vr.ownBlock = some i) w w'
  | c :: l => ∃ vr', e = .returned (.tuple #[.agg #[.string c.key, .int .u64 c.rank], .bool true]) ∧ PoolAt w' B p cap vr' l ∧ vr'.ownBlock = vr.ownBlock ∧ Fr (fun i => i = p ∨ vr.ownBlock = some i) w w'
set_option maxHeartbeats 1000000 in
theorem take_any (w : World) (B p cap : Nat) (vr : Value) (l : List Cd) (h : PoolAt w B p cap vr l) : Calls Try.prog 49 #[.pointer (some ⟨p, 0, none⟩)] w (TakePost w B p cap vr l) := by
  have hpw := h.lt
  cases l with
  | nil =>
    have HQ : Hid (∀ w', Fr (fun _ => False) w w' → PoolAt w' B p cap vr []) := fun w' hf => h.quiet hf
    have c1 : w.cell? ⟨p, 1, none⟩ = some vr := h.cell 1
    obtain ⟨a, c, rfl⟩ := owns_sliceN h.row
    have hpz : p ≠ w.heap.size := by omega
    simp only [List.length_nil] at c1
    clear h
    go_enter Try.func49, Try.ntmps49
    go_wp2
    refine bodyPost_ret (v := .tuple #[.agg #[.string ⟨#[]⟩, .int .u64 0], .bool false]) ?_ rfl ⟨rfl, ?_, ?_⟩
    · have hres : Try.f49.results = #[.cell 2 73, .tmp 3] := by kernel_rfl
      simp [results, hres, asAddr, go_sem, Result.andThen]
    · exact HQ.out _ (Fr.alloc _ _ _)
    · exact Fr.alloc _ _ _
  | cons c0 l =>
    have hrow := h.row
    obtain ⟨_, ⟨_, h0⟩ | ⟨g, rc, cur, rfl, hbase, hb, h1, h2, h3, h4⟩⟩ := hrow
    · cases h0
    have hcur : ∀ j, j < 2 → w.cell? ⟨g, j, none⟩ = (encC c0)[j]? := by
      intro j hj
      rw [cell_of_blk hb j, ← Array.getElem?_toList, ← List.getElem?_take_of_lt (show j < (c0 :: l).length * 2 by simp; omega), h4, clC_cons, List.getElem?_append_left (by simp [encC]; omega)]
    have e0 : w.cell? ⟨g, 0, none⟩ = some (.string c0.key) := hcur 0 (by decide)
    have e1 : w.cell? ⟨g, 1, none⟩ = some (.int .u64 c0.rank) := hcur 1 (by decide)
    have hgw : g < w.heap.size := (Array.getElem?_eq_some_iff.1 hb).1
    have c1 : w.cell? ⟨p, 1, none⟩ = some (.slice (some ⟨g, 0, none⟩) (l.length + 1) rc) := h.cell 1
    have hpg : p ≠ g := fun e => h.pr (by rw [e]; rfl)
    obtain ⟨key, rank⟩ := c0
    have H := Lib.hid h
    have hll : l.length + 1 ≤ 17 := h.len
    clear h hcur hb h1 h2 h3 h4 hbase
    go_enter Try.func49, Try.ntmps49
    go_wp2_with fail
    obtain ⟨W, hW⟩ : ∃ W, ((w.alloc (.cells #[.string ⟨#[]⟩, .int .u64 0] 73)).alloc (.cells #[.string key, .int .u64 rank] 73)) = W := ⟨_, rfl⟩
    have HFW : Hid (Fr (fun _ => False) w W) := by rw [← hW]; exact (Fr.alloc _ _ _).thenAlloc _
    have hs1 : (w.alloc (.cells #[.string ⟨#[]⟩, .int .u64 0] 73)).heap.size = w.heap.size + 1 := by simp
    have hbz : W.heap[w.heap.size]? = some (.cells #[.string ⟨#[]⟩, .int .u64 0] 73 (0, 0)) := by
      rw [← hW]
      exact (Below.heap_alloc (w.alloc (.cells #[.string ⟨#[]⟩, .int .u64 0] 73)) _ _ (by simp)).trans (alloc_at _ _)
    have hby : W.heap[w.heap.size + 1]? = some (.cells #[.string key, .int .u64 rank] 73 (0, 0)) := by
      rw [← hW]
      have h := alloc_at (w.alloc (.cells #[.string ⟨#[]⟩, .int .u64 0] 73)) (.cells #[.string key, .int .u64 rank] 73)
      rw [hs1] at h
      exact h
    rw [hW]
    clear hW hs1 e0 e1 c1
    have HP := Lib.hid (H.out.quiet HFW.out)
    refine (deleteC_any W B _ ⟨key, rank⟩ l HP.out.row (by omega)).mono ?_
    rintro e W2 ⟨v', rfl, hr2, hv2, hf2⟩
    have hp2 : W2.heap[p]? = some (.cells #[.int .i64 cap, .slice (some ⟨g, 0, none⟩) (l.length + 1) rc] 106 (0, 0)) := (hf2.block p HP.out.lt HP.out.pr).trans HP.out.blk
    have hz2 := (hf2.block _ (Array.getElem?_eq_some_iff.1 hbz).1 (fun e => by have h5 : g = w.heap.size := Option.some.inj e; omega)).trans hbz
    have hy2 := (hf2.block _ (Array.getElem?_eq_some_iff.1 hby).1 (fun e => by have h5 : g = w.heap.size + 1 := Option.some.inj e; omega)).trans hby
    have z0 : W2.cell? ⟨w.heap.size, 0, none⟩ = some (.string ⟨#[]⟩) := cell_of_blk hz2 0
    have z1 : W2.cell? ⟨w.heap.size, 1, none⟩ = some (.int .u64 0) := cell_of_blk hz2 1
    have zf0 : W2.frozen? ⟨w.heap.size, 0, none⟩ = false := free_of_blk hz2 0
    have zf1 : W2.frozen? ⟨w.heap.size, 1, none⟩ = false := free_of_blk hz2 1
    have y0 : W2.cell? ⟨w.heap.size + 1, 0, none⟩ = some (.string key) := cell_of_blk hy2 0
    have y1 : W2.cell? ⟨w.heap.size + 1, 1, none⟩ = some (.int .u64 rank) := cell_of_blk hy2 1
    have p1 : W2.cell? ⟨p, 1, none⟩ = some (.slice (some ⟨g, 0, none⟩) (l.length + 1) rc) := cell_of_blk hp2 1
    have pf1 : W2.frozen? ⟨p, 1, none⟩ = false := free_of_blk hp2 1
    have hn1 : p ≠ w.heap.size := by omega
    have hn2 : p ≠ w.heap.size + 1 := by omega
    obtain ⟨a', c', rfl⟩ := owns_sliceN hr2
    have HS := Lib.hid (PoolAt.stored (vr' := .slice a' l.length c') hp2 hr2 H.out.bp (by omega) H.out.cap1 H.out.cap2)
    have HF2 := Lib.hid hf2
    have HV := Lib.hid hv2
    clear hr2 hp2 hf2 hz2 hy2 hbz hby hv2
    go_wp2_with fail
    refine bodyPost_ret (v := .tuple #[.agg #[.string key, .int .u64 rank], .bool true]) ?_ rfl ⟨_, rfl, HS.out.fr ((Fr.setCell (W2.setCell ⟨p, 1, none⟩ (.slice a' l.length c')) ⟨w.heap.size, 0, none⟩ (.string key)).wide (Fr.setCell _ ⟨w.heap.size, 1, none⟩ (.int .u64 rank)) (fun i hi => .inl hi)) (fun k hk => ?_), HV.out, ?_⟩
    · have hres : Try.f49.results = #[.cell 2 73, .tmp 3] := by kernel_rfl
      simp [results, hres, asAddr, go_sem, Result.andThen, z0, z1, hn1, hn2]
    · have hk : k = w.heap.size := hk
      refine ⟨by omega, fun e => ?_⟩
      rw [HV.out] at e
      have h5 : g = k := Option.some.inj e
      omega
    · refine (((((HFW.out.mono (fun _ h _ => h.elim)).wide HF2.out (fun i hi => .inl (.inr hi))).wide (Fr.setCell W2 ⟨p, 1, none⟩ (.slice a' l.length c')) (fun i hi => .inl (.inl hi))).wide (Fr.setCell _ ⟨w.heap.size, 0, none⟩ (.string key)) (fun i hi => .inr (by rw [hi]; exact Nat.le_refl _))).wide (Fr.setCell _ ⟨w.heap.size, 1, none⟩ (.int .u64 rank)) (fun i hi => .inr (by rw [hi]; exact Nat.le_refl _)))
end Go.Proofs.Ytpcjogmikgfgdaa
