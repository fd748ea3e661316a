/- A list of signs that comes in, opened; its sets are bounded by the bulk of what comes in. -/
import Derived.Test.YthiamkfghnopgaaDoorGlobZ
namespace Go.Proofs.YthiamkfghnopgaaDoor
open Go.ChangeShapes Go.WideShapes Go.ChangeAt Go.RowKit
theorem bulk_pos {H : Type} (d : DataW H) : 1 ≤ Rows.uptoBulk d := by
  cases d with
  | lit l => cases l <;> simp [Rows.uptoBulk]
  | nil => simp [Rows.uptoBulk]
  | ptr d => simp [Rows.uptoBulk]
  | slice elems spare => simp [Rows.uptoBulk]
  | agg parts => simp [Rows.uptoBulk]
  | iface t d => simp [Rows.uptoBulk]
  | map entries => simp [Rows.uptoBulk]
  | held h => simp [Rows.uptoBulk]
theorem bulk_part {H : Type} {d : DataW H} {l : List (DataW H)} (h : d ∈ l) : Rows.uptoBulk d ≤ Rows.uptoBulkAll l := by
  induction l with
  | nil => cases h
  | cons x r ih =>
    simp only [Rows.uptoBulkAll]
    cases List.mem_cons.1 h with
    | inl e => subst e; omega
    | inr e => have := ih e; omega
theorem bulk_len {H : Type} (l : List (DataW H)) : l.length ≤ Rows.uptoBulkAll l := by
  induction l with
  | nil => simp [Rows.uptoBulkAll]
  | cons x r ih => have := bulk_pos x; simp only [Rows.uptoBulkAll, List.length_cons]; omega
section
variable {H : Type} {enc : TypeId × Value → H} {P : Program} {w : World} {base : Nat} {held : Bool} {r : Reach} {b0 : Nat} {t : TypeId} {v : Value} {d : DataW H} {p : List MemPlace}
/-- a slice opened, each element with its datum -/
theorem open_listQ {α : Type} {e : TypeId} {sz : Nat} (cs : α → List Value) (Q : α → DataW H → Prop) (hcs : ∀ x, (cs x).length = sz) (ht : P.underlying t = some (.slice e)) (hc : P.cellsOf e = sz)
    (hel : ∀ (n : Nat) (l : List Value) (y : DataW H × List MemPlace), DataW.trod enc P w base (fun _ => true) held n e l = some y → ∃ x, l = cs x ∧ Q x y.1)
    {fuel : Nat} {c : Value} (hf : DataW.trod enc P w base (fun _ => true) held fuel t [c] = some (d, p)) :
    ∃ l : List α, RdC w sz c l.length (l.flatMap cs) ∧ l.length ≤ Rows.uptoBulk d ∧ ∀ x ∈ l, ∃ d', Q x d' ∧ Rows.uptoBulk d' ≤ Rows.uptoBulk d := by
  rcases Go.Deep.open_slice ht hf with ⟨hcs0, hx⟩ | ⟨a', len', cap', m, n, D, Pl, hcs1, hb, hl, hm, hmm, hx, hi⟩
  · cases List.singleton_inj.1 hcs0
    exact ⟨[], RdC.nil w sz, Nat.zero_le _, fun x hx => by cases hx⟩
  · cases List.singleton_inj.1 hcs1
    simp only [if_true] at hmm
    subst hmm
    have hd : d = .slice ((List.range len').map D) ((List.range (m - len')).map fun j => D (len' + j)) := (Prod.mk.injEq .. ▸ hx).1
    have hbk : Rows.uptoBulk d = Rows.uptoBulkAll ((List.range len').map D) + Rows.uptoBulkAll ((List.range (m - len')).map fun j => D (len' + j)) + 1 := by rw [hd]; simp only [Rows.uptoBulk]
    have hall : ∀ k, k ≤ len' → ∃ l : List α, l.length = k ∧ (∀ j u, (l.flatMap cs)[j]? = some u → w.cell? (a'.add j) = some u) ∧ ∀ x ∈ l, ∃ i, i < len' ∧ Q x (D i) := by
      intro k
      induction k with
      | zero => intro _; exact ⟨[], rfl, fun j u hu => by simp at hu, fun x hx => by cases hx⟩
      | succ k ih =>
        intro hk
        obtain ⟨l, hll, hlc, hlq⟩ := ih (by omega)
        obtain ⟨c', hc1, hc2⟩ := hi k (by omega)
        obtain ⟨x, rfl, hq⟩ := hel n c' _ hc2
        obtain ⟨_, hcl, hat⟩ := World.cells?_some hc1
        refine ⟨l ++ [x], by simp [hll], fun j u hu => ?_, fun y hy => ?_⟩
        · have hlen : (l.flatMap cs).length = k * sz := by
            rw [List.length_flatMap]
            have : l.map (fun x => (cs x).length) = l.map (fun _ => sz) := List.map_congr_left (fun x _ => hcs x)
            rw [this, List.map_const', List.sum_replicate_nat, hll]
          rw [List.flatMap_append, List.flatMap_singleton, List.getElem?_append] at hu
          split at hu
          · exact hlc j u hu
          · rename_i hge
            have hj : j - k * sz < sz := by
              have := (List.getElem?_eq_some_iff.1 hu).1
              rw [hcs, hlen] at this; exact this
            have h2 := hat (j - k * sz) (by rw [hc]; exact hj)
            rw [hlen] at hu hge
            rw [hc, Go.Deep.add_add, show k * sz + (j - k * sz) = j by omega] at h2
            exact h2.trans hu
        · rcases List.mem_append.1 hy with hy | hy
          · exact hlq y hy
          · rw [List.mem_singleton.1 hy]; exact ⟨k, by omega, hq⟩
    obtain ⟨l, hll, hlc, hlq⟩ := hall len' (Nat.le_refl _)
    subst hll
    refine ⟨l, ⟨?_, some a', m, rfl, hl, hm, (fun e => by cases e), fun ad had => by cases had; exact hlc⟩, ?_, fun x hx => ?_⟩
    · rw [List.length_flatMap]
      have : l.map (fun x => (cs x).length) = l.map (fun _ => sz) := List.map_congr_left (fun x _ => hcs x)
      rw [this, List.map_const', List.sum_replicate_nat]
    · have := bulk_len ((List.range l.length).map D)
      rw [List.length_map, List.length_range] at this
      omega
    · obtain ⟨i, hi, hq⟩ := hlq x hx
      refine ⟨D i, hq, ?_⟩
      have := bulk_part (List.mem_map_of_mem (f := D) (List.mem_range.2 hi))
      omega
end
section
variable {H : Type} {enc : TypeId × Value → H} {w : World} {base : Nat} {held : Bool} {r : Reach} {b0 : Nat} {v : Value} {d : DataW H} {p : List MemPlace}
theorem sign_read (n : Nat) (l : List Value) (y : DataW H × List MemPlace) (h : DataW.trod enc Tryd.prog w base (fun _ => true) held n 30 l = some y) :
    ∃ x : SgB, l = sgc x ∧ (RdC w 1 x.v x.o.length (x.o.map u8) ∧ x.o.length ≤ Rows.uptoBulk y.1) := by
  obtain ⟨y0, y1, y2, y3, n', hy, hlen, t0, t1, t2, t3⟩ := Go.Joins.trod_struct4 Tryd.underlying30 h
  have hC : Tryd.prog.cellsOf 30 = 4 := by kernel_rfl
  have k0 : Tryd.prog.cellsOf 3 = 1 := by kernel_rfl
  have k1 : Tryd.prog.cellsOf 5 = 1 := by kernel_rfl
  have k3 : Tryd.prog.cellsOf 28 = 1 := by kernel_rfl
  rw [hC] at hlen
  match l, hlen with
  | [c0, c1, c2, c3], _ =>
    simp only [k0, k1, k3, List.drop, List.take] at t0 t1 t2 t3
    obtain ⟨x0, g0, _, _⟩ := DataW.trod_int Tryd.underlying3 t0
    obtain ⟨x1, g1, _, w1⟩ := DataW.trod_int Tryd.underlying5 t1
    obtain ⟨x2, g2, _, w2⟩ := DataW.trod_int Tryd.underlying5 t2
    obtain ⟨a, rfl⟩ := byte_of w1
    obtain ⟨b, rfl⟩ := byte_of w2
    cases g0; cases g1; cases g2
    obtain ⟨o, h1, h2, _⟩ := open_listQ (α := UInt8) (fun u => [u8 u]) (fun _ _ => True) (fun _ => rfl) Tryd.underlying28 (by kernel_rfl) (fun n l y h => by obtain ⟨x, hx⟩ := byte_cells Tryd.underlying5 n l y h; exact ⟨x, hx, trivial⟩) (c := c3) (d := y3.1) (p := y3.2) t3
    rw [byte_flat] at h1
    refine ⟨⟨x0, a, b, c3, o⟩, rfl, h1, Nat.le_trans h2 ?_⟩
    have e : y.1 = .agg [y0.1, y1.1, y2.1, y3.1] := by rw [hy]
    rw [e]
    simp only [Rows.uptoBulk, Rows.uptoBulkAll]
    omega
theorem open_signs (hv : Value.okWide Tryd.prog w r b0 23 v) (h : DataW.Trod enc Tryd.prog w base (fun _ => true) held 23 v d p) (hk : Rows.uptoBulk d ≤ 1048576) :
    ∃ l : List SgB, RdC w 4 v l.length (l.flatMap sgc) ∧ ∀ x ∈ l, SgOk w x := by
  obtain ⟨a, len, cap, rfl⟩ := okWide_slice Tryd.underlying23 hv
  obtain ⟨fuel, hf⟩ := h
  obtain ⟨l, h1, _, h3⟩ := open_listQ (α := SgB) sgc (fun x d' => RdC w 1 x.v x.o.length (x.o.map u8) ∧ x.o.length ≤ Rows.uptoBulk d') sgc_len Tryd.underlying23 (by kernel_rfl) sign_read (c := .slice a len cap) hf
  refine ⟨l, h1, fun x hx => ?_⟩
  obtain ⟨d', ⟨q1, q2⟩, q3⟩ := h3 x hx
  exact ⟨q1, by omega⟩
end
open Go.ChangeShapes Go.WideShapes Go.ChangeAt Go.RowKit
theorem globSplits_laid (os : Os) : laidMet Tryd.prog Rows.globSplitsUptoRow.laid ((laidWorld os).forCall (fun _ _ => 0) ⟨#[], #[.slice none 0 0, .slice none 0 0, .string ⟨#[]⟩], []⟩).memory :=
  laidMet_of_run' 8 (by kernel_rfl) (by kernel_rfl)
theorem globSplits_reads (os : Os) (H : Type) (enc : TypeId × Value → H) : DataW.whole enc Tryd.prog ((laidWorld os).forCall (fun _ _ => 0) ⟨#[], #[.slice none 0 0, .slice none 0 0, .string ⟨#[]⟩], []⟩).memory Tryd.f4.params.toList Rows.globSplitsSpec.vars false (#[.slice none 0 0, .slice none 0 0, .string ⟨#[]⟩] : Array Value).toList 8 = some ([.nil, .nil, .lit (.string [])], [], []) := by kernel_rfl
set_option maxRecDepth 100000 in
theorem globSplits_lifted (os : Os) (started : os.Started) (H : Type) (enc : TypeId × Value → H) (F : Stop.Interp) :
    ReturnsInHanded {} Tryd.checked os 4 .any ((Rows.OpenSpec.upto Rows.globSplitsSpec).preRow enc Tryd.prog Tryd.f4 Rows.globSplitsUptoRow.domain false Rows.globSplitsUptoRow.laid) (((Rows.OpenSpec.upto Rows.globSplitsSpec).at F).post enc Tryd.prog Tryd.f4 false true false false) := by
  refine returnsInHanded_of_row (C := Tryd.checked) (s := Rows.OpenSpec.upto Rows.globSplitsSpec) own started (by kernel_rfl) Tryd.func4
    (witness_row_at (enc := enc) (C := Tryd.checked) false (laidWorld os) #[.slice none 0 0, .slice none 0 0, .string ⟨#[]⟩] rfl (by kernel_rfl) (by kernel_rfl) (by kernel_rfl)
      (OpenSpec.preRow_of_cond 8 (globSplits_reads os H enc) (by kernel_rfl) (fun k hk => by cases hk; kernel_rfl) (by kernel_rfl) (globSplits_laid os))) ?_
  intro W base args ds gs before hval0 hW _ hcond hsz0 hL _ _
  have hval : ∀ (j : Nat) t v, Tryd.f4.params[j]? = some t → args[j]? = some v → Value.okWide Tryd.prog W .any base t v := hval0
  have hW' := hW
  obtain ⟨p, q, hA0, hV, rfl, hfz, hnd⟩ := hW
  have hA : DataW.TrodAll enc Tryd.prog W 0 (fun _ => true) true Tryd.f4.params.toList args.toList ds p := hA0
  rw [Tryd.params4] at hA hval
  obtain ⟨v0, vs0, d0, ds0, p0, q0, hargs, rfl, rfl, h0, r0⟩ := trodAll_cons hA
  obtain ⟨v1, vs1, d1, ds1, p1, q1, rfl, rfl, rfl, h1, r1⟩ := trodAll_cons r0
  obtain ⟨v2, vs2, d2, ds2, p2, q2, rfl, rfl, rfl, h2, r2⟩ := trodAll_cons r1
  obtain ⟨rfl, rfl, rfl⟩ := trodAll_nil r2
  obtain rfl : args = #[v0, v1, v2] := by cases args; simp_all
  obtain ⟨rfl, rfl⟩ := trodVars_none hV
  have hsz : (DataW.weightsEach Tryd.prog [23, 23, 9] [d0, d1, d2]).all (fun x => decide (x ≤ reachBytes)) = true := by
    exact hsz0
  clear hsz0
  have hsm : Rows.uptoSmall H ([d0, d1, d2] ++ []) = true := hcond _ rfl
  have hbk : Rows.uptoBulkAll [d0, d1, d2] ≤ 1048576 := by
    simp only [Rows.uptoSmall, decide_eq_true_eq, List.append_nil] at hsm
    exact hsm
  have hbk0 : Rows.uptoBulk d0 ≤ 1048576 := Nat.le_trans (bulk_part (l := [d0, d1, d2]) (by simp)) hbk
  have hbk1 : Rows.uptoBulk d1 ≤ 1048576 := Nat.le_trans (bulk_part (l := [d0, d1, d2]) (by simp)) hbk
  obtain ⟨hw0, hsz0⟩ := weights_cons hsz
  obtain ⟨l0, hr0, ho0⟩ := open_signs (hval 0 23 v0 rfl rfl) h0 (hbk0)
  obtain ⟨hw1, hsz1⟩ := weights_cons hsz0
  obtain ⟨l1, hr1, ho1⟩ := open_signs (hval 1 23 v1 rfl rfl) h1 (hbk1)
  obtain ⟨hw2, hsz2⟩ := weights_cons hsz1
  obtain ⟨x2, rfl, hs2⟩ := open_strW Tryd.underlying9 (hval 2 9 v2 rfl rfl) h2 hw2
  clear hA0 hval0
  refine (globSplits_walk W v0 l0 hr0 ho0 v1 l1 hr1 ho1 x2 hs2).mono fun e W' ⟨he, bel⟩ => ?_
  subst he
  exact ⟨_, rfl, law_post laidOut Tryd.underlying4 (by kernel_rfl) rfl (by kernel_rfl) hW' rfl bel⟩

theorem globSplits_said : Rows.GlobSplitsUptoSaid :=
  OpenClaim.holds_of_cond 4 Tryd.f4 rfl rfl rfl rfl rfl rfl rfl ⟨rfl, rfl, rfl, rfl, rfl⟩ rfl rfl rfl rfl rfl (by kernel_rfl) Tryd.func4 (by kernel_rfl)
    (of_decide_eq_true (by kernel_rfl)) (by unfold Func.isWrapper; first | (rw [if_pos (by decide +kernel)]; kernel_rfl) | (rw [if_neg (by decide +kernel)]; exact ⟨rfl, rfl⟩))
    (fun os started H enc _ F => by rw [OpenClaim.pre_eq_preRow]; exact globSplits_lifted os started H enc F)
theorem globSplits_plain (f : FuncId) (fn : Func) (hf : Tryd.pinned.checked.prog.funcNamed "pantry/pantrylaw03.GlobSplits" = some f) (hfn : Tryd.pinned.checked.prog.funcs[f]? = some fn) :
    false = Tryd.pinned.checked.prog.looks [] ∧ ∀ (j : Nat) t, fn.params[j]? = some t → Tryd.pinned.checked.prog.wantsStandIn t = false := by
  obtain rfl : f = 4 := Option.some.inj ((show Tryd.prog.funcNamed "pantry/pantrylaw03.GlobSplits" = some 4 by kernel_rfl).symm.trans hf) |>.symm
  obtain rfl : fn = Tryd.f4 := (Option.some.inj (Tryd.func4.symm.trans hfn)).symm
  refine ⟨by kernel_rfl, fun j t ht => ?_⟩
  have hall : (Tryd.f4.params.toList.all fun t => Tryd.prog.wantsStandIn t == false) = true := by kernel_rfl
  have hm := List.all_eq_true.1 hall t (Array.mem_toList_iff.2 (Array.mem_of_getElem? ht))
  exact eq_of_beq hm
theorem globSplits_card : Rows.GlobSplitsUptoCardSaid :=
  Claim7.holds_tied_plain_at .later [] _ _ _ _ globSplits_said (fun _ h => by cases h) (by kernel_rfl) (fun _ h => by cases h) globSplitsUpto_row_tie rfl ⟨rfl, rfl⟩ (by kernel_rfl) rfl globSplits_plain (by kernel_rfl)
end Go.Proofs.YthiamkfghnopgaaDoor
