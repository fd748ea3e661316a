/- pantrylaw26's lentTexts, keptTexts: texts lent with marks behind them in the spare room. No condition. -/
import Derived.Test.YtpcjogmikgfgdaaSpT26
import Derived.Test.YtpcjogmikgfgdaaSameT
import Derived.Deep.DeepAppendRoom
namespace Go.Proofs.Ytpcjogmikgfgdaa
open Go.RowKit
theorem wpl_spare26 {P : Program} {w : World} {ops : Array Oper} {rest : List Oper} {o : Oper} {a : Act} {Q : Exit → Act → World → Prop} (hgd : o.guard = none) (s x : Operand) (t : TypeId) (ho : o.op = .call { callee := .builtin .append, args := #[s, x], argTypes := #[t, t] })
    (base : Nat) (e : TypeId) (i : TypeInfo) (size : Nat) (ht : P.underlying t = some (.slice e)) (hi : P.info? e = some i) (hsize : i.size = size) (hsz : 0 < size)
    (g n cap : Nat) (xs : List Value) (hs : a.eval s = .slice (some ⟨g, 0, none⟩) n cap) (hown : w.ownsRow base e size (.slice (some ⟨g, 0, none⟩) n cap) n xs)
    (xv : Value) (m : Nat) (news : List Value) (hx : a.eval x = xv) (hrd : RdC w size xv m news) (h1 : ∀ u ∈ news, u.oneCell' = true)
    (hroom : n + m ≤ cap)
    (h : ∀ w', w'.ownsRow base e size (.slice (some ⟨g, 0, none⟩) (n + m) cap) (n + m) (xs ++ news) → w.grownBy w' (some g) → wpList P ops Q rest (a.put o.dst (.slice (some ⟨g, 0, none⟩) (n + m) cap)) w') : wpList P ops Q (o :: rest) a w := by
  obtain ⟨hl, ad, c, hxv, hmc, hcm, hnil, hcells⟩ := hrd
  cases ad with
  | some ad => exact wpList_append_own_spare _ hgd s x t ho base e i size ht hi hsize g n cap xs hs hown ad m c news (hx.trans hxv) hl (hcells ad rfl) h1 hroom h
  | none =>
    obtain ⟨rfl, rfl⟩ := hnil rfl
    have hn0 : news = [] := by simpa using hl
    subst hn0
    refine wpList_plain hgd fun K hK => ?_
    have hrun := run_append_owned_none (P := P) (w := w) (base := base) t o.type e i size ht hi _ n xs hown
    have hg := h w (by simpa using hown) ⟨rfl, rfl, rfl, Nat.le_refl _, fun _ _ _ => rfl⟩
    have he : a.eval x = .slice none 0 0 := hx.trans hxv
    unfold Oper.wp
    simp [execOp, ho, resolve, invoke, builtin, hs, he, hrun, Result.andThen]
    exact hK _ _ hg
def mark : ByteArray := ⟨#[126]⟩
/-- lent: the texts, and the marks behind them -/
def Lent (w : World) (g : Nat) (ws : List ByteArray) : Prop := w.heap[g]? = some (.cells ((ws ++ List.replicate 70 mark).map Value.string).toArray 9 (0, 0))
def LentPost (w : World) (ws : List ByteArray) (e : Ending) (w' : World) : Prop :=
  ∃ g, e = .returned (.slice (some ⟨g, 0, none⟩) ws.length (ws.length + 70)) ∧ w.heap.size ≤ g ∧ Lent w' g ws ∧ Below w.heap.size w w'
theorem Lent.row {w : World} {g : Nat} {ws : List ByteArray} (h : Lent w g ws) (hn : ws.length ≤ 1000000000000000) : w.ownsRow 0 9 1 (.slice (some ⟨g, 0, none⟩) ws.length (ws.length + 70)) ws.length (ws.map .string) := by
  refine ⟨by simp, .inr ⟨g, ws.length + 70, _, rfl, Nat.zero_le _, h, by omega, by unfold maxLen; omega, by simp, ?_⟩⟩
  show List.take (ws.length * 1) ((ws ++ List.replicate 70 mark).map Value.string) = _
  rw [List.map_append, Nat.mul_one, List.take_append_of_le_length (by simp), List.take_of_length_le (by simp)]
theorem Lent.full {w : World} {g : Nat} {ws : List ByteArray} (h : Lent w g ws) (hn : ws.length ≤ 1000000000000000) : w.ownsRow 0 9 1 (.slice (some ⟨g, 0, none⟩) (ws.length + 70) (ws.length + 70)) (ws.length + 70) ((ws ++ List.replicate 70 mark).map .string) := by
  refine ⟨by simp, .inr ⟨g, ws.length + 70, _, rfl, Nat.zero_le _, h, by omega, by unfold maxLen; omega, by simp, ?_⟩⟩
  exact List.take_of_length_le (by simp)
theorem Lent.fr {w w' : World} {g : Nat} {ws : List ByteArray} {T : Nat → Prop} (h : Lent w g ws) (hf : Fr T w w') (hT : ¬ T g) : Lent w' g ws := (hf.block g (Array.getElem?_eq_some_iff.1 h).1 hT).trans h
set_option maxRecDepth 100000 in
set_option maxHeartbeats 2000000 in
theorem lent_any (v : Value) (ws : List ByteArray) (w : World) (h : RdC w 1 v ws.length (ws.map .string)) (hb : ws.length * 16 ≤ 140737488351232) :
    Calls Try.prog 62 #[v] w (LentPost w ws) := by
  obtain ⟨i0, hi, hz0, hz1, hz2⟩ := info_parts infoS
  have HI := Lib.hid hi
  have HZ1 := Lib.hid hz1
  obtain ⟨n, hn⟩ : ∃ n, ws.length = n := ⟨_, rfl⟩
  rw [hn] at h hb
  have HN := Lib.hid hn
  have hmk : (Instr.makeSlice 41 (.int .i64 0) (.int .i64 ((n : Int) + 70))).run Try.prog w = .ok (.slice (some ⟨w.heap.size, 0, none⟩) 0 (n + 70)) (w.alloc (.cells (List.replicate (n + 70) (.string ⟨#[]⟩)).toArray 9)) := by
    have h := run_make (P := Try.prog) w 41 9 i0 (.string ⟨#[]⟩) Try.underlying41 hi hz0 .i64 .i64 0 ((n + 70 : Nat) : Int) (Int.le_refl _) (by omega) (by rw [hz2]; omega) (by omega)
    have e : (Value.string ⟨#[]⟩).cells = #[.string ⟨#[]⟩] := rfl
    have e2 : ((n + 70 : Nat) : Int) = (n : Int) + 70 := by omega
    rw [hz1, Nat.mul_one, e, madeCells_one26, e2] at h
    have e3 : ((n : Int) + 70).toNat = n + 70 := by omega
    rw [e3] at h
    exact h
  have HR := Lib.hid h
  have HB0 : Hid (Below w.heap.size w (w.alloc (.cells (List.replicate (n + 70) (.string ⟨#[]⟩)).toArray 9))) := (Below.refl _ _).alloc (Nat.le_refl _) _
  have HO0 : Hid ((w.alloc (.cells (List.replicate (n + 70) (.string ⟨#[]⟩)).toArray 9)).ownsRow w.heap.size 9 1 (.slice (some ⟨w.heap.size, 0, none⟩) 0 (n + 70)) 0 []) :=
    ⟨rfl, .inr ⟨w.heap.size, n + 70, _, rfl, Nat.le_refl _, alloc_at _ _, Nat.zero_le _, by unfold maxLen; omega, by simp, by simp⟩⟩
  obtain ⟨-, a, c, rfl, -⟩ := h
  obtain ⟨W1, hW1⟩ : ∃ W, w.alloc (.cells (List.replicate (n + 70) (.string ⟨#[]⟩)).toArray 9) = W := ⟨_, rfl⟩
  rw [hW1] at hmk HB0 HO0
  clear hi hz0 hz1 hz2 hn hW1
  go_enter Try.func62, Try.ntmps62
  go_upto_region 3 with (at_builtin; refine wpl_spare26 rfl (.tmp 8) (.tmp 9) 41 rfl w.heap.size 9 i0 1 Try.underlying41 HI.out HZ1.out (by decide) w.heap.size 0 (n + 70) [] rfl HO0.out _ n (ws.map .string) rfl (HR.out.below HB0.out) (one_strs ws) (by omega) ?_; intro w2 hown hgrow; rw [Nat.zero_add, List.nil_append] at hown; have HO2 := Lib.hid hown; have HB2 := Lib.hid (HB0.out.grown hgrow HB0.out.size (fun j hj => (by cases hj; exact Nat.le_refl _))); clear hown hgrow)
  obtain ⟨g0, hg0⟩ : ∃ g, w.heap.size = g := ⟨_, rfl⟩
  have HG0 := Lib.hid hg0
  rw [hg0] at HO2 HB2 ⊢
  clear hg0
  go_wp2_with fail
  go_loopw [3, 11] (fun o i wr => ∃ (j m : Nat), i = .int .i64 j ∧ j ≤ 70 ∧ o = .slice (some ⟨g0, 0, none⟩) m (n + 70) ∧ Hid (m = n + j) ∧ Hid (wr.ownsRow g0 9 1 (.slice (some ⟨g0, 0, none⟩) m (n + 70)) m ((ws ++ List.replicate j mark).map .string)) ∧ Hid (Below g0 w wr)) (fun _ i _ => 70 - (intOf i).toNat)
  case atStart => exact ⟨0, n, rfl, by omega, rfl, rfl, by rw [List.replicate_zero, List.append_nil]; exact HO2.out, HB2.out⟩
  case round =>
    obtain ⟨j, m, rfl, hj, rfl, HM, HO, HB⟩ := hrel
    obtain ⟨wo, rfl⟩ : ∃ x, x = wr := ⟨_, rfl⟩
    have hmb : m ≤ n + j := by have := HM.out; omega
    by_cases hlt : j < 70
    · have g1 : decide ((j : Int) < 70) = true := by rw [decide_eq_true_eq]; omega
      have hlt3 : (j : Int) < 70 := by omega
      have hgs : g0 ≤ wo.heap.size := by have := HB.out.size; have := HG0.out; omega
      go_wp2_with (at_builtin; refine wpl_spare26 rfl (.tmp 13) (.tmp 14) 41 rfl g0 9 i0 1 Try.underlying41 HI.out HZ1.out (by decide) g0 m (n + 70) _ rfl (HO.out.alloc _) _ 1 [.string ⟨#[126]⟩] rfl (rd_one _ _) (by simp [Value.oneCell']) (by omega) ?_; intro w3 hown hgrow; have HO3 := Lib.hid hown; have HB3 := Lib.hid ((HB.out.alloc hgs (.cells #[.string ⟨#[126]⟩] 9)).grown hgrow (by simp; omega) (fun j hj => (by cases hj; exact Nat.le_refl _))); clear hown hgrow)
      go_roundw
      case rel =>
        refine ⟨j + 1, m + 1, by go_num, by omega, rfl, by show _ = _; have := HM.out; omega, ?_, HB3.out⟩
        rw [List.replicate_succ', ← List.append_assoc, List.map_append]
        exact HO3.out
      case measure => simp [intOf]; omega
    · have hj70 : j = 70 := by omega
      subst hj70
      have hm70 : m = n + 70 := HM.out
      subst hm70
      have hc0 : (0 : Int) ≤ (n : Int) := by omega
      have hc1 : (n : Int) ≤ (n : Int) + 70 := by omega
      have HLT : Hid (Lent wo g0 ws) := by
        obtain ⟨-, ⟨h9, _⟩ | ⟨g9, cap9, cur9, he9, _, hb9, k91, _, k93, k94⟩⟩ := HO.out
        · cases h9
        cases he9
        rw [List.take_of_length_le (by rw [Array.length_toList, k93]; exact Nat.le_refl _)] at k94
        show _ = _
        rw [hb9, ← k94]
      go_wp2_with fail
      go_ret
      refine ⟨g0, by rw [HN.out]; rfl, by rw [HG0.out]; exact Nat.le_refl _, HLT.out, by rw [HG0.out]; exact HB.out⟩
set_option maxHeartbeats 2000000 in
theorem kept_any (w : World) (g : Nat) (v : Value) (ws : List ByteArray) (hl : Lent w g ws) (h : RdC w 1 v ws.length (ws.map .string)) (hb : ws.length * 16 ≤ 140737488351232) :
    Calls Try.prog 64 #[.slice (some ⟨g, 0, none⟩) ws.length (ws.length + 70), v] w fun e w' => e = .returned (.bool true) ∧ Fr (fun _ => False) w w' := by
  have hs := sameT_any w (.slice (some ⟨g, 0, none⟩) ws.length (ws.length + 70)) v ws ws (RdC.of_owns (hl.row (by omega))) h
  rw [decide_eq_true rfl] at hs
  have HS := Lib.hid hs
  have HL := Lib.hid hl
  obtain ⟨-, a, c, rfl, -⟩ := h
  obtain ⟨n, hn⟩ : ∃ n, ws.length = n := ⟨_, rfl⟩
  have HN := Lib.hid hn
  rw [hn] at HS hb ⊢
  have hc0 : (0 : Int) ≤ (n : Int) := by omega
  have hc1 : (n : Int) + 70 ≤ (n : Int) + 70 := Int.le_refl _
  clear hs hl hn
  go_enter Try.func64, Try.ntmps64
  go_wp2_with fail
  refine HS.out.mono ?_
  rintro e w1 ⟨rfl, m, rfl⟩
  go_wp2_with fail
  go_loopw [6] (fun i wr => ∃ (j : Nat), i = .int .i64 j ∧ n ≤ j ∧ j ≤ n + 70 ∧ Hid (Fr (fun _ => False) w wr)) (fun i _ => n + 70 - (intOf i).toNat)
  case atStart => exact ⟨n, rfl, Nat.le_refl _, by omega, Fr.drewN _ _ _⟩
  case round =>
    obtain ⟨j, rfl, hj1, hj2, HF⟩ := hrel
    obtain ⟨wo, rfl⟩ : ∃ x, x = wr := ⟨_, rfl⟩
    by_cases hlt : j < n + 70
    · have hcell := own_cell1 ((HL.out.fr HF.out (fun h => h)).full (by rw [HN.out]; omega)) (show j < ws.length + 70 by rw [HN.out]; exact hlt)
      have e1 : ((ws ++ List.replicate 70 mark).map Value.string)[j]? = some (.string ⟨#[126]⟩) := by
        rw [List.getElem?_map, List.getElem?_append_right (by rw [HN.out]; exact hj1), List.getElem?_replicate, if_pos (by rw [HN.out]; omega)]
        rfl
      rw [e1] at hcell
      have y0 := hcell.1
      have hd0 : (0 : Int) ≤ (j : Int) := by omega
      have hd1 : (j : Int) < (n : Int) + 70 := by omega
      clear hcell e1
      go_wp2_with fail
      go_roundw
      case rel => exact ⟨j + 1, by go_num, by omega, by omega, HF.out⟩
      case measure => simp [intOf]; omega
    · have hj70 : j = n + 70 := by omega
      subst hj70
      go_wp2_with fail
      go_ret
      exact ⟨rfl, HF.out⟩
end Go.Proofs.Ytpcjogmikgfgdaa
