/- SessionPlays: every script with two sessions: all that is told is what the reference tells; what is handed in stays, and is not kept. The script's words and steps: 1048576 at most. -/
import Derived.Test.YtpcjogmikgfgdaaPlays26
import Derived.Test.YtpcjogmikgfgdaaOpenU26
import Derived.StillTailTactics
namespace Go.Proofs.Ytpcjogmikgfgdaa
open Go.ChangeShapes Go.WideShapes Go.ChangeAt Go.RowKit
/-- two sessions and the reference's, and blocks apart from them -/
def Tw26 (w W : World) (n : Nat) (KL : List (Nat × Obj)) (p0 m0 q0 p1 m1 q1 : Nat) : Prop :=
  ∃ F1 F2 G1 G2 a0 b0 S0 L0 a1 b1 S1 L1, Sy W w.heap.size F1 F2 p0 m0 q0 a0 b0 S0 L0 ∧ Sy W w.heap.size G1 G2 p1 m1 q1 a1 b1 S1 L1 ∧ (∀ k, F1 k ∨ F2 k → ¬ (G1 k ∨ G2 k)) ∧
    (∀ x ∈ KL, W.heap[x.1]? = some x.2 ∧ ¬ (F1 x.1 ∨ F2 x.1) ∧ ¬ (G1 x.1 ∨ G2 x.1)) ∧ Below w.heap.size w W ∧ L0.length ≤ n ∧ L1.length ≤ n
section
variable {w W W' : World} {n : Nat} {KL : List (Nat × Obj)} {p0 m0 q0 p1 m1 q1 : Nat}
theorem Tw26.swap (h : Tw26 w W n KL p0 m0 q0 p1 m1 q1) : Tw26 w W n KL p1 m1 q1 p0 m0 q0 := by
  obtain ⟨F1, F2, G1, G2, a0, b0, S0, L0, a1, b1, S1, L1, h1, h2, h3, h4, h5, h6, h7⟩ := h
  exact ⟨G1, G2, F1, F2, a1, b1, S1, L1, a0, b0, S0, L0, h2, h1, fun k a b => h3 k b a, fun x hx => ⟨(h4 x hx).1, (h4 x hx).2.2, (h4 x hx).2.1⟩, h5, h7, h6⟩
theorem Tw26.bel (h : Tw26 w W n KL p0 m0 q0 p1 m1 q1) : Below w.heap.size w W := by
  obtain ⟨F1, F2, G1, G2, a0, b0, S0, L0, a1, b1, S1, L1, h1, h2, h3, h4, h5, h6, h7⟩ := h
  exact h5
theorem Tw26.kept (h : Tw26 w W n KL p0 m0 q0 p1 m1 q1) {b : Nat} {o : Obj} (hb : (b, o) ∈ KL) : W.heap[b]? = some o := by
  obtain ⟨F1, F2, G1, G2, a0, b0, S0, L0, a1, b1, S1, L1, h1, h2, h3, h4, h5, h6, h7⟩ := h
  exact (h4 _ hb).1
theorem Tw26.quiet (h : Tw26 w W n KL p0 m0 q0 p1 m1 q1) (hf : Fr (fun _ => False) W W') : Tw26 w W' n KL p0 m0 q0 p1 m1 q1 := by
  obtain ⟨F1, F2, G1, G2, a0, b0, S0, L0, a1, b1, S1, L1, h1, h2, h3, h4, h5, h6, h7⟩ := h
  exact ⟨F1, F2, G1, G2, a0, b0, S0, L0, a1, b1, S1, L1, h1.quiet hf, h2.quiet hf, h3, fun x hx => ⟨(hf.block _ (Array.getElem?_eq_some_iff.1 (h4 x hx).1).1 (fun h => h)).trans (h4 x hx).1, (h4 x hx).2⟩, h5.trans (hf.below h5.size (fun _ h => h.elim)), h6, h7⟩
theorem Tw26.more {n' : Nat} (h : Tw26 w W n KL p0 m0 q0 p1 m1 q1) (hn : n ≤ n') : Tw26 w W n' KL p0 m0 q0 p1 m1 q1 := by
  obtain ⟨F1, F2, G1, G2, a0, b0, S0, L0, a1, b1, S1, L1, h1, h2, h3, h4, h5, h6, h7⟩ := h
  exact ⟨F1, F2, G1, G2, a0, b0, S0, L0, a1, b1, S1, L1, h1, h2, h3, h4, h5, Nat.le_trans h6 hn, Nat.le_trans h7 hn⟩
theorem Tw26.box (h : Tw26 w W n KL p0 m0 q0 p1 m1 q1) (o : Obj) : Tw26 w (W.alloc o) n ((W.heap.size, o) :: KL) p0 m0 q0 p1 m1 q1 := by
  obtain ⟨F1, F2, G1, G2, a0, b0, S0, L0, a1, b1, S1, L1, k1, k2, k3, k4, k5, k6, k7⟩ := h
  have hf := Fr.alloc (fun _ => False) W o
  refine ⟨F1, F2, G1, G2, a0, b0, S0, L0, a1, b1, S1, L1, k1.quiet hf, k2.quiet hf, k3, fun x hx => ?_, k5.alloc k5.size o, k6, k7⟩
  rcases List.mem_cons.1 hx with rfl | hx
  · refine ⟨alloc_at W o, fun e => ?_, fun e => ?_⟩
    · rcases e with e | e
      · exact Nat.lt_irrefl _ (k1.g.f.lt _ e).2
      · exact Nat.lt_irrefl _ (k1.r.lt _ e).2
    · rcases e with e | e
      · exact Nat.lt_irrefl _ (k2.g.f.lt _ e).2
      · exact Nat.lt_irrefl _ (k2.r.lt _ e).2
  · exact ⟨(hf.block _ (Array.getElem?_eq_some_iff.1 (k4 x hx).1).1 (fun h => h)).trans (k4 x hx).1, (k4 x hx).2⟩
theorem Tw26.drop {x : Nat × Obj} (h : Tw26 w W n (x :: KL) p0 m0 q0 p1 m1 q1) : Tw26 w W n KL p0 m0 q0 p1 m1 q1 := by
  obtain ⟨F1, F2, G1, G2, a0, b0, S0, L0, a1, b1, S1, L1, h1, h2, h3, h4, h5, h6, h7⟩ := h
  exact ⟨F1, F2, G1, G2, a0, b0, S0, L0, a1, b1, S1, L1, h1, h2, h3, fun x hx => h4 x (List.mem_cons_of_mem _ hx), h5, h6, h7⟩
/-- the first of the two takes a step -/
theorem Tw26.step (h : Tw26 w W n KL p0 m0 q0 p1 m1 q1) (o : St) (ho : StOk w o) (hn : n + o.ws.length + 1 ≤ 1099511627776) :
    Calls Try.prog 40 #[.pointer (some ⟨p0, 0, none⟩), .pointer (some ⟨q0, 0, none⟩), .agg #[.int .i64 o.who, .int .i64 o.do_, .int .i64 o.n, o.wv]] W fun e W' => e = .returned (.bool true) ∧ Tw26 w W' (n + o.ws.length + 1) KL p0 m0 q0 p1 m1 q1 := by
  obtain ⟨F1, F2, G1, G2, a0, b0, S0, L0, a1, b1, S1, L1, h1, h2, h3, h4, h5, h6, h7⟩ := h
  refine (plays26_any w W F1 F2 p0 m0 q0 a0 b0 S0 L0 o h1 ho h5 (by omega)).mono ?_
  rintro e W' ⟨he, F1', F2', a0', b0', S0', L0', j1, j2, j3, j4, j5⟩
  refine ⟨he, F1', F2', G1, G2, a0', b0', S0', L0', a1, b1, S1, L1, j1, ⟨h2.g.other j4 (fun k hk e => h3 k e (.inl hk)), h2.r.other j4 (fun k hk e => h3 k e (.inr hk)), h2.eq, h2.ap⟩, fun k hk hg => ?_, fun x hx => ?_, h5.trans (j4.below h5.size (fun i hi => ?_)), by omega, by omega⟩
  · have hlt : k < W.heap.size := by
      rcases hg with hg | hg
      · exact (h2.g.f.lt k hg).2
      · exact (h2.r.lt k hg).2
    rcases hk with hk | hk
    · rcases j2 k hk with h8 | h8
      · exact h3 k (.inl h8) hg
      · omega
    · rcases j3 k hk with h8 | h8
      · exact h3 k (.inr h8) hg
      · omega
  · obtain ⟨k1, k2, k3⟩ := h4 x hx
    have hlt := (Array.getElem?_eq_some_iff.1 k1).1
    refine ⟨(j4.block _ hlt k2).trans k1, fun e => ?_, k3⟩
    rcases e with e | e
    · rcases j2 _ e with h8 | h8
      · exact k2 (.inl h8)
      · omega
    · rcases j3 _ e with h8 | h8
      · exact k2 (.inr h8)
      · omega
  · rcases hi with hi | hi
    · exact (h1.g.f.lt i hi).1
    · exact (h1.r.lt i hi).1
theorem Tw26.asks (h : Tw26 w W n KL p0 m0 q0 p1 m1 q1) : Calls Try.prog 41 #[.pointer (some ⟨p0, 0, none⟩), .pointer (some ⟨q0, 0, none⟩)] W fun e W' => e = .returned (.bool true) ∧ Fr (fun _ => False) W W' := by
  obtain ⟨F1, F2, G1, G2, a0, b0, S0, L0, a1, b1, S1, L1, h1, _⟩ := h
  exact asks_any W w.heap.size F1 F2 p0 m0 q0 a0 b0 S0 L0 h1
end
/-- how long a script is -/
def cost26 (l : List St) : Nat := (l.map fun o => o.ws.length + 1).sum
theorem cost26_take (l : List St) (k : Nat) (h : k < l.length) : cost26 (l.take (k + 1)) = cost26 (l.take k) + (l[k].ws.length + 1) := by
  unfold cost26
  rw [List.take_succ_eq_append_getElem h, List.map_append, List.sum_append]
  simp
theorem cost26_le (l : List St) (k : Nat) : cost26 (l.take k) ≤ cost26 l := by
  unfold cost26
  conv => rhs; rw [← List.take_append_drop k l, List.map_append, List.sum_append]
  omega
set_option maxRecDepth 100000 in
set_option maxHeartbeats 8000000 in
theorem sessionPlays_walk (w : World) (v1 : Value) (S : List St) (hr : RdC w 4 v1 S.length (S.flatMap stCells)) (hby : S.length * 48 ≤ 140737488351232) (hok : ∀ o ∈ S, StOk w o) (hcs : cost26 S ≤ 1048576) :
    Calls Try.prog 7 #[v1] w fun e w' => e = .returned (.bool true) ∧ Below w.heap.size w w' := by
  have HR := Lib.hid hr
  have HOK := Lib.hid hok
  have HCS := Lib.hid hcs
  obtain ⟨-, a1, c1, rfl, -⟩ := hr
  clear hok hcs
  go_enter Try.func7, Try.ntmps7
  go_wp2_with fail
  refine (newSess_any w).mono ?_
  intro e w1 hn
  obtain ⟨p0, m0, rfl, hg0, hb1⟩ := sessG_new hn
  have HG0 := Lib.hid hg0
  have HB1 := Lib.hid hb1
  clear hn hg0 hb1
  go_wp2_with fail
  refine (newSess_any w1).mono ?_
  intro e w2 hn
  obtain ⟨p1, m1, rfl, hg1, hb2⟩ := sessG_new hn
  have HG1 := Lib.hid hg1
  have HB2 := Lib.hid hb2
  clear hn hg1 hb2
  go_wp2_with fail
  obtain ⟨W3, hW3⟩ : ∃ W, w2.alloc (.cells #[.pointer (some ⟨p0, 0, none⟩), .pointer (some ⟨p1, 0, none⟩)] 58) = W := ⟨_, rfl⟩
  have hb3 : W3.heap[w2.heap.size]? = some (.cells #[.pointer (some ⟨p0, 0, none⟩), .pointer (some ⟨p1, 0, none⟩)] 58 (0, 0)) := by rw [← hW3]; exact alloc_at _ _
  have HF3 : Hid (Fr (fun _ => False) w2 W3) := by rw [← hW3]; exact Fr.alloc _ _ _
  obtain ⟨bs, hbs⟩ : ∃ b, w2.heap.size = b := ⟨_, rfl⟩
  have HBS := Lib.hid hbs
  rw [hW3]
  rw [hbs] at hb3 ⊢
  clear hW3 hbs
  refine (newRf_any W3).mono ?_
  rintro e w4 ⟨q0, rfl, hr0, hb4⟩
  have HR0 := Lib.hid hr0
  have HB4 := Lib.hid hb4
  have H3 := Lib.hid hb3
  clear hr0 hb4 hb3
  go_wp2_with fail
  refine (newRf_any w4).mono ?_
  rintro e w5 ⟨q1, rfl, hr1, hb5⟩
  have HTW : Hid (Tw26 w w5 0 [(bs, .cells #[.pointer (some ⟨p0, 0, none⟩), .pointer (some ⟨p1, 0, none⟩)] 58 (0, 0))] p0 m0 q0 p1 m1 q1) := by
    have q2 : Fr (fun _ => False) w1 w2 := ⟨HB2.out.os, HB2.out.tape, HB2.out.output, HB2.out.size, fun k hk _ => HB2.out.block k hk⟩
    have q4 : Fr (fun _ => False) W3 w4 := ⟨HB4.out.os, HB4.out.tape, HB4.out.output, HB4.out.size, fun k hk _ => HB4.out.block k hk⟩
    have q5 : Fr (fun _ => False) w4 w5 := ⟨hb5.os, hb5.tape, hb5.output, hb5.size, fun k hk _ => hb5.block k hk⟩
    have q35 : Fr (fun _ => False) W3 w5 := q4.wide q5 (fun _ h => h.elim)
    have q25 : Fr (fun _ => False) w2 w5 := HF3.out.wide q35 (fun _ h => h.elim)
    have z1 := HB1.out.size
    have z2 := HB2.out.size
    have z3 := HF3.out.size
    have z4 := HB4.out.size
    have z5 := hb5.size
    have hbs2 : w2.heap.size = bs := HBS.out
    have hb3l : bs < W3.heap.size := (Array.getElem?_eq_some_iff.1 H3.out).1
    have hBL : Below w.heap.size w w5 := HB1.out.trans ((q2.wide q25 (fun _ h => h.elim)).below HB1.out.size (fun _ h => h.elim))
    refine ⟨_, _, _, _, _, _, _, _, _, _, _, _, ⟨(HG0.out.quiet q2).quiet q25, (HR0.out.base (Nat.le_trans z1 (Nat.le_trans z2 z3))).quiet q5, rfl, fun k hk hk2 => ?_⟩, ⟨(HG1.out.base z1).quiet q25, hr1.base (by omega), rfl, fun k hk hk2 => ?_⟩, fun k hk hk2 => ?_, fun x hx => ?_, hBL, Nat.le_refl _, Nat.le_refl _⟩
    · omega
    · omega
    · omega
    · rw [List.mem_singleton.1 hx]
      refine ⟨(q35.block _ hb3l (fun h => h)).trans H3.out, fun e => ?_, fun e => ?_⟩
      · dsimp only at e; omega
      · dsimp only at e; omega
  clear hr1 hb5 HR0 HB4 H3 HG0 HG1 HB1 HB2 HF3 HBS
  go_upto_region 3 with fail
  have HT6 := Lib.hid (HTW.out.box (.cells #[.pointer (some ⟨q0, 0, none⟩), .pointer (some ⟨q1, 0, none⟩)] 61))
  obtain ⟨W6, hW6⟩ : ∃ W, w5.alloc (.cells #[.pointer (some ⟨q0, 0, none⟩), .pointer (some ⟨q1, 0, none⟩)] 61) = W := ⟨_, rfl⟩
  obtain ⟨bm, hbm⟩ : ∃ b, w5.heap.size = b := ⟨_, rfl⟩
  rw [hW6, hbm] at HT6
  rw [hW6, hbm]
  clear hW6 HTW hbm
  obtain ⟨KL, hKL⟩ : ∃ KL, [(bm, Obj.cells #[.pointer (some ⟨q0, 0, none⟩), .pointer (some ⟨q1, 0, none⟩)] 61 (0, 0)), (bs, .cells #[.pointer (some ⟨p0, 0, none⟩), .pointer (some ⟨p1, 0, none⟩)] 58 (0, 0))] = KL := ⟨_, rfl⟩
  have HKM : Hid ((bm, Obj.cells #[.pointer (some ⟨q0, 0, none⟩), .pointer (some ⟨q1, 0, none⟩)] 61 (0, 0)) ∈ KL) := by rw [← hKL]; exact List.mem_cons_self
  have HKS : Hid ((bs, Obj.cells #[.pointer (some ⟨p0, 0, none⟩), .pointer (some ⟨p1, 0, none⟩)] 58 (0, 0)) ∈ KL) := by rw [← hKL]; exact List.mem_cons_of_mem _ List.mem_cons_self
  rw [hKL] at HT6
  clear hKL
  have x0 : W6.cell? ⟨bs, 0, none⟩ = some (.pointer (some ⟨p0, 0, none⟩)) := cell_of_blk (HT6.out.kept HKS.out) 0
  have x1 : W6.cell? ⟨bs, 1, none⟩ = some (.pointer (some ⟨p1, 0, none⟩)) := cell_of_blk (HT6.out.kept HKS.out) 1
  go_wp2_with fail
  clear x0 x1
  go_loopw [24] (fun i wr => ∃ k : Nat, i = .int .i64 k ∧ k ≤ S.length ∧ Hid (Tw26 w wr (1100 * cost26 (S.take k)) KL p0 m0 q0 p1 m1 q1)) (fun i _ => S.length - (intOf i).toNat)
  case atStart => exact ⟨0, rfl, by omega, by rw [show cost26 (S.take 0) = 0 by simp [cost26]]; exact HT6.out⟩
  case round =>
    obtain ⟨k, rfl, hk, HT⟩ := hrel
    obtain ⟨wo, rfl⟩ : ∃ x, x = wr := ⟨_, rfl⟩
    clear HT6
    by_cases hlt : k < S.length
    · obtain ⟨g, off, rfl, d0, d1, d2, d3⟩ := st_at (HR.out.below HT.out.bel) k hlt
      have hO := HOK.out S[k] (List.getElem_mem hlt)
      have hct := cost26_take S k hlt
      have hcl := cost26_le S (k + 1)
      obtain ⟨o, ho⟩ : ∃ o, S[k] = o := ⟨_, rfl⟩
      rw [ho] at d0 d1 d2 d3 hO hct
      have hc6 := HCS.out
      obtain ⟨C, hC⟩ : ∃ C, cost26 (S.take k) = C := ⟨_, rfl⟩
      rw [hC] at hct HT
      have HCT := Lib.hid hct
      have hcb : C + (o.ws.length + 1) ≤ 1048576 := by omega
      have hb0 : (0 : Int) ≤ (k : Int) := by omega
      have hb1 : (k : Int) < (S.length : Int) := by omega
      have HO := Lib.hid hO
      obtain ⟨-, oa, oc, how, -⟩ := hO.rd
      rw [how] at d3
      have HOW := Lib.hid how
      clear ho hct hcl hc6 hC hO how
      go_upto_region 8 with fail
      have HTB0 := Lib.hid (HT.out.box (.cells #[.int .i64 o.who, .int .i64 o.do_, .int .i64 o.n, .slice oa o.ws.length oc] 43))
      obtain ⟨W8, hW8⟩ : ∃ W, wo.alloc (.cells #[.int .i64 o.who, .int .i64 o.do_, .int .i64 o.n, .slice oa o.ws.length oc] 43) = W := ⟨_, rfl⟩
      obtain ⟨s, hs⟩ : ∃ b, wo.heap.size = b := ⟨_, rfl⟩
      rw [hW8, hs] at HTB0
      rw [hW8, hs]
      clear hW8 hs d0 d1 d2 d3 HT
      obtain ⟨who, hwho⟩ : ∃ x, o.who = x := ⟨_, rfl⟩
      obtain ⟨nn, hnn⟩ : ∃ x, o.n = x := ⟨_, rfl⟩
      rw [hwho, hnn] at HTB0
      obtain ⟨KB, hKB⟩ : ∃ KB, ((s, Obj.cells #[.int .i64 who, .int .i64 o.do_, .int .i64 nn, .slice oa o.ws.length oc] 43 (0, 0)) :: KL) = KB := ⟨_, rfl⟩
      have HKB := Lib.hid hKB
      have HKO : Hid ((s, Obj.cells #[.int .i64 who, .int .i64 o.do_, .int .i64 nn, .slice oa o.ws.length oc] 43 (0, 0)) ∈ KB) := by rw [← hKB]; exact List.mem_cons_self
      have HKM2 : Hid ((bm, Obj.cells #[.pointer (some ⟨q0, 0, none⟩), .pointer (some ⟨q1, 0, none⟩)] 61 (0, 0)) ∈ KB) := by rw [← hKB]; exact List.mem_cons_of_mem _ HKM.out
      have HKS2 : Hid ((bs, Obj.cells #[.pointer (some ⟨p0, 0, none⟩), .pointer (some ⟨p1, 0, none⟩)] 58 (0, 0)) ∈ KB) := by rw [← hKB]; exact List.mem_cons_of_mem _ HKS.out
      rw [show ((s, Obj.cells #[.int .i64 who, .int .i64 o.do_, .int .i64 nn, .slice oa o.ws.length oc] 43) :: KL) = KB from hKB] at HTB0
      have HWHO := Lib.hid hwho
      have HNN := Lib.hid hnn
      clear hKB hwho hnn
      have HCELL : Hid (∀ W N, Tw26 w W N KB p0 m0 q0 p1 m1 q1 → (W.cell? ⟨s, 0, none⟩ = some (.int .i64 who) ∧ W.cell? ⟨s, 1, none⟩ = some (.int .i64 o.do_) ∧ W.cell? ⟨s, 2, none⟩ = some (.int .i64 nn) ∧ W.cell? ⟨s, 3, none⟩ = some (.slice oa o.ws.length oc)) ∧ (W.cell? ⟨bs, 0, none⟩ = some (.pointer (some ⟨p0, 0, none⟩)) ∧ W.cell? ⟨bs, 1, none⟩ = some (.pointer (some ⟨p1, 0, none⟩)) ∧ W.cell? ⟨bm, 0, none⟩ = some (.pointer (some ⟨q0, 0, none⟩)) ∧ W.cell? ⟨bm, 1, none⟩ = some (.pointer (some ⟨q1, 0, none⟩)))) := fun W N h =>
        ⟨⟨cell_of_blk (h.kept HKO.out) 0, cell_of_blk (h.kept HKO.out) 1, cell_of_blk (h.kept HKO.out) 2, cell_of_blk (h.kept HKO.out) 3⟩, ⟨cell_of_blk (h.kept HKS2.out) 0, cell_of_blk (h.kept HKS2.out) 1, cell_of_blk (h.kept HKM2.out) 0, cell_of_blk (h.kept HKM2.out) 1⟩⟩
      by_cases hwr : who < 0 ∨ 1 < who
      · obtain ⟨⟨y0, y1, y2, y3⟩, _⟩ := HCELL.out _ _ HTB0.out
        have HDR : Hid (Tw26 w W8 (1100 * cost26 (S.take (k + 1))) KL p0 m0 q0 p1 m1 q1) := by
          have h9 := HTB0.out
          rw [← HKB.out] at h9
          exact h9.drop.more (by have := HCT.out; omega)
        rcases hwr with hw | hw
        · have gw : decide (who < 0) = true := decide_eq_true hw
          go_wp2_with fail
          go_roundw
          case rel => exact ⟨k + 1, by go_num, by omega, HDR.out⟩
          case measure => simp [intOf]; omega
        · have gw : decide (who < 0) = false := by rw [decide_eq_false_iff_not]; omega
          have gw2 : decide (1 < who) = true := decide_eq_true hw
          go_wp2_with fail
          go_roundw
          case rel => exact ⟨k + 1, by go_num, by omega, HDR.out⟩
          case measure => simp [intOf]; omega
      · have HCALL : Hid (∀ W N, N + o.ws.length + 1 ≤ 1099511627776 → Tw26 w W N KB p0 m0 q0 p1 m1 q1 → Calls Try.prog 40 #[.pointer (some ⟨if who = 0 then p0 else p1, 0, none⟩), .pointer (some ⟨if who = 0 then q0 else q1, 0, none⟩), .agg #[.int .i64 who, .int .i64 o.do_, .int .i64 nn, .slice oa o.ws.length oc]] W fun e W' => e = .returned (.bool true) ∧ Tw26 w W' (N + o.ws.length + 1) KB p0 m0 q0 p1 m1 q1) := fun W N hN hT => by
          rw [← HWHO.out, ← HNN.out, ← HOW.out]
          by_cases h0 : o.who = 0
          · rw [if_pos h0, if_pos h0]
            exact hT.step o HO.out hN
          · rw [if_neg h0, if_neg h0]
            exact (hT.swap.step o HO.out hN).mono fun e W' ⟨he, h⟩ => ⟨he, h.swap⟩
        have gw : decide (who < 0) = false := by rw [decide_eq_false_iff_not]; omega
        have gw2 : decide (1 < who) = false := by rw [decide_eq_false_iff_not]; omega
        have hw0 : 0 ≤ who := by omega
        have hw1 : who < 2 := by omega
        have h01 : who = 0 ∨ who = 1 := by omega
        rcases h01 with h01 | h01
        · subst h01
          rw [if_pos rfl, if_pos rfl] at HCALL
          clear hwr gw gw2 hw0 hw1
          obtain ⟨⟨y0, y1, y2, y3⟩, ⟨z0, z1, z2, z3⟩⟩ := HCELL.out _ _ HTB0.out
          have HC1 := Lib.hid (HCALL.out W8.drew _ (by omega) (HTB0.out.quiet (Fr.drew _ _)))
          go_upto_region 9 with fail
          refine wp_region_still_tail 9 (by kernel_rfl) (by kernel_rfl) ?_
          simp only [List.take_succ_cons, List.take_zero, List.drop_succ_cons, List.drop_zero]
          iterate 9 still_step
          refine wpStill_nil ?_
          go_wp2_with fail
          refine HC1.out.mono ?_
          rintro e w9 ⟨rfl, ht9⟩
          have HT9 := Lib.hid ht9
          clear ht9 y0 y1 y2 y3 z0 z1 z2 z3 HC1
          go_wp2_with fail
          go_loopw [7] (fun i wr => ∃ (j N : Nat), i = .int .i64 j ∧ 1 ≤ j ∧ j ≤ 1100 ∧ Hid (N = 1100 * C + j * (o.ws.length + 1)) ∧ Hid (Tw26 w wr N KB p0 m0 q0 p1 m1 q1)) (fun i _ => 1100 - (intOf i).toNat)
          case atStart => exact ⟨1, _, rfl, by omega, by omega, by show _ = _; omega, HT9.out⟩
          case round =>
            obtain ⟨j, N, rfl, hj1, hj2, HN, HTN⟩ := hrel
            obtain ⟨wq, rfl⟩ : ∃ x, x = wr := ⟨_, rfl⟩
            obtain ⟨⟨y0, y1, y2, y3⟩, ⟨z0, z1, z2, z3⟩⟩ := HCELL.out _ _ HTN.out
            have hmul : j * (o.ws.length + 1) ≤ 1100 * (o.ws.length + 1) := Nat.mul_le_mul_right _ hj2
            have hNb : N ≤ 1100 * (C + (o.ws.length + 1)) := by have := HN.out; omega
            have HDR : Hid (Tw26 w wq (1100 * cost26 (S.take (k + 1))) KL p0 m0 q0 p1 m1 q1) := by
              have h9 := HTN.out
              rw [← HKB.out] at h9
              exact h9.drop.more (by have := HCT.out; omega)
            clear hmul
            by_cases hi1 : (j : Int) < nn
            · have gi1 : decide ((j : Int) < nn) = true := decide_eq_true hi1
              by_cases hi2 : j < 1100
              · have gi2 : decide ((j : Int) < 1100) = true := by rw [decide_eq_true_eq]; omega
                have gi3 : (j : Int) < 1100 := by omega
                have HC2 := Lib.hid (HCALL.out wq.drew N (by omega) (HTN.out.quiet (Fr.drew _ _)))
                go_upto_region 14 with fail
                refine wp_region_still_tail 9 (by kernel_rfl) (by kernel_rfl) ?_
                simp only [List.take_succ_cons, List.take_zero, List.drop_succ_cons, List.drop_zero]
                iterate 9 still_step
                refine wpStill_nil ?_
                go_wp2_with fail
                refine HC2.out.mono ?_
                rintro e w10 ⟨rfl, ht10⟩
                have HT10 := Lib.hid ht10
                clear ht10 y0 y1 y2 y3 z0 z1 z2 z3 HC2
                go_wp2_with fail
                go_roundw
                case rel => exact ⟨j + 1, N + o.ws.length + 1, by go_num, by omega, by omega, by show _ = _; have := HN.out; rw [Nat.add_mul]; omega, HT10.out⟩
                case measure => simp [intOf]; omega
              · have gi2 : decide ((j : Int) < 1100) = false := by rw [decide_eq_false_iff_not]; omega
                go_wp2_with fail
                go_roundw
                case rel => exact ⟨k + 1, by go_num, by omega, HDR.out⟩
                case measure => simp [intOf]; omega
            · have gi1 : decide ((j : Int) < nn) = false := decide_eq_false hi1
              go_wp2_with fail
              go_roundw
              case rel => exact ⟨k + 1, by go_num, by omega, HDR.out⟩
              case measure => simp [intOf]; omega
        · subst h01
          rw [if_neg (by decide), if_neg (by decide)] at HCALL
          clear hwr gw gw2 hw0 hw1
          obtain ⟨⟨y0, y1, y2, y3⟩, ⟨z0, z1, z2, z3⟩⟩ := HCELL.out _ _ HTB0.out
          have HC1 := Lib.hid (HCALL.out W8.drew _ (by omega) (HTB0.out.quiet (Fr.drew _ _)))
          go_upto_region 9 with fail
          refine wp_region_still_tail 9 (by kernel_rfl) (by kernel_rfl) ?_
          simp only [List.take_succ_cons, List.take_zero, List.drop_succ_cons, List.drop_zero]
          iterate 9 still_step
          refine wpStill_nil ?_
          go_wp2_with fail
          refine HC1.out.mono ?_
          rintro e w9 ⟨rfl, ht9⟩
          have HT9 := Lib.hid ht9
          clear ht9 y0 y1 y2 y3 z0 z1 z2 z3 HC1
          go_wp2_with fail
          go_loopw [7] (fun i wr => ∃ (j N : Nat), i = .int .i64 j ∧ 1 ≤ j ∧ j ≤ 1100 ∧ Hid (N = 1100 * C + j * (o.ws.length + 1)) ∧ Hid (Tw26 w wr N KB p0 m0 q0 p1 m1 q1)) (fun i _ => 1100 - (intOf i).toNat)
          case atStart => exact ⟨1, _, rfl, by omega, by omega, by show _ = _; omega, HT9.out⟩
          case round =>
            obtain ⟨j, N, rfl, hj1, hj2, HN, HTN⟩ := hrel
            obtain ⟨wq, rfl⟩ : ∃ x, x = wr := ⟨_, rfl⟩
            obtain ⟨⟨y0, y1, y2, y3⟩, ⟨z0, z1, z2, z3⟩⟩ := HCELL.out _ _ HTN.out
            have hmul : j * (o.ws.length + 1) ≤ 1100 * (o.ws.length + 1) := Nat.mul_le_mul_right _ hj2
            have hNb : N ≤ 1100 * (C + (o.ws.length + 1)) := by have := HN.out; omega
            have HDR : Hid (Tw26 w wq (1100 * cost26 (S.take (k + 1))) KL p0 m0 q0 p1 m1 q1) := by
              have h9 := HTN.out
              rw [← HKB.out] at h9
              exact h9.drop.more (by have := HCT.out; omega)
            clear hmul
            by_cases hi1 : (j : Int) < nn
            · have gi1 : decide ((j : Int) < nn) = true := decide_eq_true hi1
              by_cases hi2 : j < 1100
              · have gi2 : decide ((j : Int) < 1100) = true := by rw [decide_eq_true_eq]; omega
                have gi3 : (j : Int) < 1100 := by omega
                have HC2 := Lib.hid (HCALL.out wq.drew N (by omega) (HTN.out.quiet (Fr.drew _ _)))
                go_upto_region 14 with fail
                refine wp_region_still_tail 9 (by kernel_rfl) (by kernel_rfl) ?_
                simp only [List.take_succ_cons, List.take_zero, List.drop_succ_cons, List.drop_zero]
                iterate 9 still_step
                refine wpStill_nil ?_
                go_wp2_with fail
                refine HC2.out.mono ?_
                rintro e w10 ⟨rfl, ht10⟩
                have HT10 := Lib.hid ht10
                clear ht10 y0 y1 y2 y3 z0 z1 z2 z3 HC2
                go_wp2_with fail
                go_roundw
                case rel => exact ⟨j + 1, N + o.ws.length + 1, by go_num, by omega, by omega, by show _ = _; have := HN.out; rw [Nat.add_mul]; omega, HT10.out⟩
                case measure => simp [intOf]; omega
              · have gi2 : decide ((j : Int) < 1100) = false := by rw [decide_eq_false_iff_not]; omega
                go_wp2_with fail
                go_roundw
                case rel => exact ⟨k + 1, by go_num, by omega, HDR.out⟩
                case measure => simp [intOf]; omega
            · have gi1 : decide ((j : Int) < nn) = false := decide_eq_false hi1
              go_wp2_with fail
              go_roundw
              case rel => exact ⟨k + 1, by go_num, by omega, HDR.out⟩
              case measure => simp [intOf]; omega
    · obtain rfl : k = S.length := by omega
      have HA0 := Lib.hid HT.out.asks
      have x0 : wo.cell? ⟨bs, 0, none⟩ = some (.pointer (some ⟨p0, 0, none⟩)) := cell_of_blk (HT.out.kept HKS.out) 0
      have x2 : wo.cell? ⟨bm, 0, none⟩ = some (.pointer (some ⟨q0, 0, none⟩)) := cell_of_blk (HT.out.kept HKM.out) 0
      go_wp2_with fail
      refine HA0.out.mono ?_
      rintro e w8 ⟨rfl, hf8⟩
      have HT8 := Lib.hid (HT.out.quiet hf8)
      have HA1 := Lib.hid HT8.out.swap.asks
      have x1 : w8.cell? ⟨bs, 1, none⟩ = some (.pointer (some ⟨p1, 0, none⟩)) := cell_of_blk (HT8.out.kept HKS.out) 1
      have x3 : w8.cell? ⟨bm, 1, none⟩ = some (.pointer (some ⟨q1, 0, none⟩)) := cell_of_blk (HT8.out.kept HKM.out) 1
      clear hf8 x0 x2
      go_wp2_with fail
      refine HA1.out.mono ?_
      rintro e w9 ⟨rfl, hf9⟩
      have HT9 := Lib.hid (HT8.out.quiet hf9)
      clear hf9 x1 x3
      go_wp2_with fail
      go_ret
      exact ⟨rfl, HT9.out.bel⟩
theorem sessionPlays_laid (os : Os) : laidMet Try.prog Rows.sessionPlaysUptoRow.laid ((laidWorld os).forCall (fun _ _ => 0) ⟨#[], #[.slice none 0 0], []⟩).memory :=
  laidMet_of_run' 8 (by kernel_rfl) (by kernel_rfl)
theorem sessionPlays_reads (os : Os) (H : Type) (enc : TypeId × Value → H) : DataW.whole enc Try.prog ((laidWorld os).forCall (fun _ _ => 0) ⟨#[], #[.slice none 0 0], []⟩).memory Try.f7.params.toList Rows.sessionPlaysSpec.vars false (#[.slice none 0 0] : Array Value).toList 8 = some ([.nil], [], []) := by kernel_rfl
set_option maxRecDepth 100000 in
theorem sessionPlays_lifted (os : Os) (started : os.Started) (H : Type) (enc : TypeId × Value → H) (F : Stop.Interp) :
    ReturnsInHanded {} Try.checked os 7 .any ((Rows.OpenSpec.upto Rows.sessionPlaysSpec).preRow enc Try.prog Try.f7 Rows.sessionPlaysUptoRow.domain false Rows.sessionPlaysUptoRow.laid) (((Rows.OpenSpec.upto Rows.sessionPlaysSpec).at F).post enc Try.prog Try.f7 false true false false) := by
  refine returnsInHanded_of_row (C := Try.checked) (s := Rows.OpenSpec.upto Rows.sessionPlaysSpec) own started (by kernel_rfl) Try.func7
    (witness_row_at (enc := enc) (C := Try.checked) false (laidWorld os) #[.slice none 0 0] rfl (by kernel_rfl) (by kernel_rfl) (by kernel_rfl)
      (OpenSpec.preRow_of_cond 8 (sessionPlays_reads os H enc) (by kernel_rfl) (fun k hk => by cases hk; kernel_rfl) (by kernel_rfl) (sessionPlays_laid os))) ?_
  intro W base args ds gs before hval0 hW _ hcond hsz0 hL _ _
  have hval : ∀ (j : Nat) t v, Try.f7.params[j]? = some t → args[j]? = some v → Value.okWide Try.prog W .any base t v := hval0
  have hW' := hW
  obtain ⟨p, q, hA0, hV, rfl, hfz, hnd⟩ := hW
  have hA : DataW.TrodAll enc Try.prog W 0 (fun _ => true) true Try.f7.params.toList args.toList ds p := hA0
  rw [Try.params7] at hA hval
  obtain ⟨v0, vs0, d0, ds0, p0, q0, hargs, rfl, rfl, h0, r0⟩ := trodAll_cons hA
  obtain ⟨rfl, rfl, rfl⟩ := trodAll_nil r0
  obtain rfl : args = #[v0] := by cases args; simp_all
  obtain ⟨rfl, rfl⟩ := trodVars_none hV
  have hsz : (DataW.weightsEach Try.prog [36] [d0]).all (fun x => decide (x ≤ reachBytes)) = true := by
    exact hsz0
  clear hsz0
  have hsm : Rows.uptoSmall H ([d0] ++ []) = true := hcond _ rfl
  have hbk : Rows.uptoBulkAll [d0] ≤ 1048576 := by
    simp only [Rows.uptoSmall, decide_eq_true_eq, List.append_nil] at hsm
    exact hsm
  obtain ⟨hw0, hsz0⟩ := weights_cons hsz
  obtain ⟨fu0, hf0⟩ := trod_one h0 (okWide_slice Try.underlying36 (hval 0 36 v0 rfl rfl))
  obtain ⟨l0, hr0, hby0, hok0, hcs0⟩ := open_script26U hf0 hw0
  have hbk0 : Rows.uptoBulk d0 ≤ 1048576 := Nat.le_trans (bulk_part (l := [d0]) (by simp)) hbk
  clear hA0 hval0
  refine (sessionPlays_walk W v0 l0 hr0 hby0 hok0 (Nat.le_trans hcs0 hbk0)).mono fun e W' ⟨he, bel⟩ => ?_
  subst he
  exact ⟨_, rfl, law_post laidOut Try.underlying4 (by kernel_rfl) rfl (by kernel_rfl) hW' rfl bel⟩

theorem sessionPlays_holds : Rows.SessionPlaysUptoSaid :=
  OpenClaim.holds_of_cond 7 Try.f7 rfl rfl rfl rfl rfl rfl rfl ⟨rfl, rfl, rfl, rfl, rfl⟩ rfl rfl rfl rfl rfl (by kernel_rfl) Try.func7 (by kernel_rfl)
    (of_decide_eq_true (by kernel_rfl)) (by unfold Func.isWrapper; first | (rw [if_pos (by decide +kernel)]; kernel_rfl) | (rw [if_neg (by decide +kernel)]; exact ⟨rfl, rfl⟩))
    (fun os started H enc _ F => by rw [OpenClaim.pre_eq_preRow]; exact sessionPlays_lifted os started H enc F)

end Go.Proofs.Ytpcjogmikgfgdaa
