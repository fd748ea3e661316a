/- The reference's session: did, and what is done by it. No condition. -/
import Derived.Test.YtpcjogmikgfgdaaRf26
namespace Go.Proofs.Ytpcjogmikgfgdaa
open Go.RowKit
theorem infoDid : (Try.prog.info? 118).map (fun i => (i.zero, i.size, i.bytes)) = some (some (.agg #[.int .i64 0, .slice none 0 0]), 2, 32) := by kernel_rfl
theorem RefF.wider {w : World} {B q : Nat} {F F' : Nat → Prop} {vr : Value} {L : List Dd} (h : RefF w B F q vr L) (hF : ∀ k, F k → F' k) (hl : ∀ k, F' k → B ≤ k ∧ k < w.heap.size) : RefF w B F' q vr L :=
  ⟨h.blk, h.row, fun d hm => ⟨(h.wrd d hm).1, fun g hg => ⟨hF g ((h.wrd d hm).2 g hg).1, ((h.wrd d hm).2 g hg).2⟩⟩, h.wat, h.wsz, hF _ h.fq, fun g hg => hF g (h.fr g hg), hl, h.ln⟩
def DidPost (w : World) (B : Nat) (F : Nat → Prop) (q : Nat) (L : List Dd) (k : Int) (ws : List ByteArray) (e : Ending) (w' : World) : Prop :=
  ∃ u vr' nv, e = .returned u ∧ RefF w' B (Grew F w w') q vr' (L ++ [⟨k, nv, ws⟩]) ∧ Fr F w w'
theorem ddC_one {B q : Nat} {F : Nat → Prop} {vr : Value} {L : List Dd} {w : World} (h : RefF w B F q vr L) : ∀ u ∈ L.flatMap ddC, u.oneCell' = true := by
  intro u hu
  obtain ⟨d, hd, hm⟩ := List.mem_flatMap.1 hu
  obtain ⟨_, a, c, hv, _⟩ := (h.wrd d hd).1
  simp only [ddC, List.mem_cons, List.not_mem_nil, or_false] at hm
  rcases hm with rfl | rfl
  · rfl
  · rw [hv]; rfl
/-- behind the append and the store -/
theorem cells_two26 (w : World) (x y : Value) (t : TypeId) : ∀ j u, [x, y][j]? = some u → (w.alloc (.cells #[x, y] t)).cell? ((⟨w.heap.size, 0, none⟩ : Addr).add j) = some u := by
  intro j u hj
  have h := alloc_at w (.cells #[x, y] t)
  match j, hj with
  | 0, hj => cases hj; exact (cell_of_blk h 0).trans rfl
  | 1, hj => cases hj; exact (cell_of_blk h 1).trans rfl
  | j + 2, hj => simp at hj
theorem did_fin {w w1 w2 : World} {B q g2 cap2 : Nat} {F : Nat → Prop} {vr nv : Value} {L : List Dd} {k : Int} {ws : List ByteArray} (H : RefF w1 B F q vr L) (hF : Fr (fun _ => False) w w1) (hFl : ∀ k, F k → k < w.heap.size) (hB : B ≤ w.heap.size)
    (hnv : w1.ownsRow w.heap.size 9 1 nv ws.length (ws.map .string)) (hln : L.length < 1099511627776) (hsz : ws.length * 16 ≤ 140737488351232) (hw5 : k = 5 → ∃ x, ws = [x] ∧ inL x (run26 L).wt = false)
    (o : Obj) (hgrow : (w1.alloc o).grownBy w2 vr.ownBlock) (hown : w2.ownsRow B 118 2 (.slice (some ⟨g2, 0, none⟩) (L.length + 1) cap2) (L.length + 1) (L.flatMap ddC ++ [.int .i64 k, nv])) (hat : vr.ownBlock = some g2 ∨ g2 = w1.heap.size + 1) :
    RefF (w2.setCell ⟨q, 0, none⟩ (.slice (some ⟨g2, 0, none⟩) (L.length + 1) cap2)) B (Grew F w (w2.setCell ⟨q, 0, none⟩ (.slice (some ⟨g2, 0, none⟩) (L.length + 1) cap2))) q (.slice (some ⟨g2, 0, none⟩) (L.length + 1) cap2) (L ++ [⟨k, nv, ws⟩]) ∧ w2.cell? ⟨q, 0, none⟩ = some vr ∧ w2.frozen? ⟨q, 0, none⟩ = false ∧ Fr F w (w2.setCell ⟨q, 0, none⟩ (.slice (some ⟨g2, 0, none⟩) (L.length + 1) cap2)) := by
  have hf2 : Fr (fun k => vr.ownBlock = some k) w1 w2 := (Fr.alloc _ w1 o).wide (Fr.of_grownBy hgrow) (fun i hi => .inl hi)
  have hq1 : q < w1.heap.size := (H.lt q H.fq).2
  have hb2 : w2.heap[q]? = some (.cells #[vr] 103 (0, 0)) := (hf2.block q hq1 (fun e => H.qr e)).trans H.blk
  have hs := Fr.setCell w2 ⟨q, 0, none⟩ (.slice (some ⟨g2, 0, none⟩) (L.length + 1) cap2)
  have hall : Fr F w (w2.setCell ⟨q, 0, none⟩ (.slice (some ⟨g2, 0, none⟩) (L.length + 1) cap2)) :=
    ((hF.mono (fun _ h _ => h.elim)).wide hf2 (fun i hi => .inl (H.fr i hi))).wide hs (fun i hi => .inl (by rw [show i = q from hi]; exact H.fq))
  have h12 : Fr (fun i => i = q ∨ vr.ownBlock = some i) w1 (w2.setCell ⟨q, 0, none⟩ (.slice (some ⟨g2, 0, none⟩) (L.length + 1) cap2)) :=
    (hf2.mono (fun _ h _ => .inr h)).wide hs (fun i hi => .inl (.inl hi))
  have hgq : g2 ≠ q := by
    rintro rfl
    obtain ⟨_, _, cs, hc⟩ := own_blk hown (g := g2) rfl
    rw [hb2] at hc
    simp only [Option.some.injEq, Obj.cells.injEq] at hc
    exact absurd hc.2.1 (by decide)
  have hown3 : (w2.setCell ⟨q, 0, none⟩ (.slice (some ⟨g2, 0, none⟩) (L.length + 1) cap2)).ownsRow B 118 2 (.slice (some ⟨g2, 0, none⟩) (L.length + 1) cap2) (L.length + 1) (L.flatMap ddC ++ [.int .i64 k, nv]) :=
    owns_fr hown hs (fun g hg e => by
      have h5 : g2 = g := Option.some.inj hg
      exact hgq (h5.trans e))
  have hz := hall.size
  have hz1 := h12.size
  -- words' blocks: none is turned
  have hno : ∀ d ∈ L, ∀ g, d.v.ownBlock = some g → ¬ (g = q ∨ vr.ownBlock = some g) := fun d hd g hg e => by
    have htb := ((H.wrd d hd).2 g hg).2
    rcases e with rfl | e
    · exact not_tb H.blk (by decide) htb
    · obtain ⟨_, _, cs, hc⟩ := own_blk H.row e
      exact not_tb hc (by decide) htb
  refine ⟨⟨?_, ?_, fun d hd => ?_, fun t ht hk => ?_, fun d hd => ?_, .inl H.fq, fun g hg => ?_, fun k hk => ?_, by rw [List.length_append]; exact hln⟩, cell_of_blk hb2 0, free_of_blk hb2 0, hall⟩
  · exact heap_setCell_same w2 q 0 _ _ _ hb2
  · rw [List.length_append, List.flatMap_append]
    exact hown3
  · rcases List.mem_append.1 hd with hd | hd
    · exact ⟨(H.wrd d hd).1.fr h12 (fun g hg => hno d hd g hg), fun g hg => ⟨.inl ((H.wrd d hd).2 g hg).1, ((H.wrd d hd).2 g hg).2.fr h12 (hno d hd g hg)⟩⟩
    · rw [List.mem_singleton.1 hd]
      have hne : ∀ g, nv.ownBlock = some g → ¬ (g = q ∨ vr.ownBlock = some g) := fun g hg e => by
        have h5 := (own_blk hnv hg).1
        rcases e with rfl | e
        · have := hFl _ H.fq; omega
        · have := hFl _ (H.fr g e); omega
      exact ⟨(RdC.of_owns hnv).fr h12 hne, fun g hg => ⟨.inr ⟨(own_blk hnv hg).1, Nat.lt_of_lt_of_le (own_blk hnv hg).2.1 hz1⟩, TB.fr (own_blk hnv hg).2.2 h12 (hne g hg)⟩⟩
  · rw [List.length_append] at ht
    have ht' : t < L.length + 1 := ht
    by_cases hlt : t < L.length
    · rw [List.getElem_append_left hlt] at hk ⊢
      rw [List.take_append_of_le_length (Nat.le_of_lt hlt)]
      exact H.wat t hlt hk
    · obtain rfl : t = L.length := by omega
      simp only [List.getElem_append_right (Nat.le_refl _), Nat.sub_self, List.getElem_cons_zero] at hk ⊢
      rw [List.take_append_of_le_length (Nat.le_refl _), List.take_length]
      exact hw5 hk
  · rcases List.mem_append.1 hd with hd | hd
    · exact H.wsz d hd
    · rw [List.mem_singleton.1 hd]; exact hsz
  · have h5 : g2 = g := Option.some.inj hg
    rcases hat with h6 | h6
    · exact .inl (H.fr g (by rw [h6, h5]))
    · refine .inr ⟨by have := hF.size; omega, ?_⟩
      exact (own_blk hown3 (g := g) hg).2.1
  · rcases hk with hk | hk
    · exact ⟨(H.lt k hk).1, Nat.lt_of_lt_of_le (hFl k hk) hz⟩
    · exact ⟨Nat.le_trans hB hk.1, hk.2⟩
set_option maxRecDepth 100000 in
set_option maxHeartbeats 2000000 in
theorem did_any (w : World) (B q : Nat) (F : Nat → Prop) (vr : Value) (L : List Dd) (h : RefF w B F q vr L) (k : Int) (v : Value) (ws : List ByteArray) (hr : RdC w 1 v ws.length (ws.map .string)) (hsz : ws.length * 16 ≤ 140737488351232)
    (hln : L.length < 1099511627776) (hw5 : k = 5 → ∃ x, ws = [x] ∧ inL x (run26 L).wt = false) (hB : B ≤ w.heap.size) :
    Calls Try.prog 91 #[.pointer (some ⟨q, 0, none⟩), .int .i64 k, v] w (DidPost w B F q L k ws) := by
  obtain ⟨i0, hi, hz0, hz1, hz2⟩ := info_parts infoDid
  have HI := Lib.hid hi
  have HZ0 := Lib.hid hz0
  have HZ1 := Lib.hid hz1
  have HZ2 := Lib.hid hz2
  have HC := Lib.hid (fun (W : World) (hW : RdC W 1 v ws.length (ws.map .string)) => twin_any v ws W hW (by omega))
  have HR1 := Lib.hid (hr.fr (Fr.drew (fun _ => False) w) (fun _ _ h => h))
  have c1 : w.cell? ⟨q, 0, none⟩ = some vr := h.cell
  have f1 : w.frozen? ⟨q, 0, none⟩ = false := h.free
  have HLT := Lib.hid (fun k hk => (h.lt k hk).2)
  have H1 := Lib.hid (h.quiet (Fr.drew (fun _ => False) w))
  have hqw : q < w.heap.size := (h.lt q h.fq).2
  obtain ⟨a, c, rfl⟩ := owns_sliceN h.row
  obtain ⟨-, av, cv, rfl, -⟩ := hr
  have HW5 := Lib.hid hw5
  have HSZ := Lib.hid hsz
  have HBW := Lib.hid hB
  clear h hi hz0 hz1 hz2 hw5 hsz hB
  go_enter Try.func91, Try.ntmps91
  go_wp2_with fail
  go_region_law (first
      | (go_simp; go_at_call 93; ((with_reducible refine (HC.out _ HR1.out).mono ?_); rintro e w1 ⟨a1, c1, rfl, hr1, hb1⟩; have HF1 : Hid (Fr (fun _ => False) w.drew w1) := ⟨hb1.os, hb1.tape, hb1.output, hb1.size, fun k hk _ => hb1.block k hk⟩; have HNV := Lib.hid hr1; have H2 := Lib.hid (H1.out.quiet HF1.out); have j1 : w1.cell? ⟨q, 0, none⟩ = some (.slice a L.length c) := H2.out.cell; have j2 : w1.frozen? ⟨q, 0, none⟩ = false := H2.out.free; have j3 : q < w1.heap.size := (H2.out.lt q H2.out.fq).2; have HBW1 : Hid (B ≤ w1.heap.size) := Nat.le_trans HBW.out HF1.out.size; clear hr1 hb1; dsimp only))
      | (refine step_append_lies _ (by rfl) (.tmp 10) (.tmp 15) 101 (by rfl) B 118 i0 (.agg #[.int .i64 0, .slice none 0 0]) 2 32 Try.underlying101 HI.out HZ0.out HZ1.out HZ2.out rfl (by decide) (.slice a L.length c) L.length (L.flatMap ddC) (by rfl) (H2.out.row.alloc _) ⟨w1.heap.size, 0, none⟩ 1 1 [.int .i64 k, .slice a1 ws.length c1] (by rfl) rfl (cells_two26 _ _ _ _) (by simp [Value.oneCell']) (by decide) (by unfold maxLen; omega) (by omega) (by have := HBW1.out; simp; omega) (w1.heap.size + 1) (by simp) ?_; intro g2 cap2 w2 hown hgrow hat hlt; obtain ⟨q1, q2, q3, q4⟩ := did_fin H2.out ((Fr.drew (fun _ => False) w).wide HF1.out (fun _ h => h.elim)) HLT.out HBW.out HNV.out hln HSZ.out HW5.out _ hgrow hown hat; have Q1 := Lib.hid q1; have Q4 := Lib.hid q4; clear hown hgrow hat q1 q4))
  all_goals
    go_wp2
    go_end0
    exact ⟨_, _, _, rfl, Q1.out, Q4.out⟩
end Go.Proofs.Ytpcjogmikgfgdaa
