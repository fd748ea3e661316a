/- The reference's session: among, Queued. No condition. -/
import Derived.Test.YtpcjogmikgfgdaaRf26
namespace Go.Proofs.Ytpcjogmikgfgdaa
open Go.RowKit
set_option maxHeartbeats 1000000 in
theorem amongR_any (t : ByteArray) (v : Value) (l : List ByteArray) (w : World) (h : RdC w 1 v l.length (l.map .string)) :
    Calls Try.prog 92 #[.string t, v] w fun e w' => e = .returned (.bool (inL t l)) ∧ w = w' := by
  have hm := h.len
  unfold maxLen at hm
  have H := Lib.hid h
  obtain ⟨-, a, c, rfl, -⟩ := h
  go_enter Try.func92, Try.ntmps92
  go_wp2_with fail
  go_loop [9] (fun i => ∃ k : Nat, i = .int .i64 k ∧ k ≤ l.length ∧ Hid (inL t (l.take k) = false)) (fun i => l.length - (intOf i).toNat)
  case atStart => exact ⟨0, rfl, by omega, rfl⟩
  case round =>
    obtain ⟨k, rfl, hk, HN⟩ := hrel
    by_cases hlt : k < l.length
    · obtain ⟨g, off, rfl, hc⟩ := H.out.at (by simp; omega)
      have hc0 := hc k (.string l[k]) (by rw [List.getElem?_map, List.getElem?_eq_getElem hlt]; rfl)
      have hsn : inL t (l.take (k + 1)) = (inL t (l.take k) || decide (l[k] = t)) := by rw [List.take_succ_eq_append_getElem hlt, inL_snoc]
      have hmem : l[k] ∈ l := List.getElem_mem hlt
      obtain ⟨x, hx⟩ : ∃ x, l[k] = x := ⟨_, rfl⟩
      rw [hx] at hc0 hsn hmem
      have hb0 : (0 : Int) ≤ (k : Int) := by omega
      have hb1 : (k : Int) < (l.length : Int) := by omega
      clear hc
      by_cases hq : x = t
      · have HT : Hid (inL t l = true) := inL_iff.2 (hq ▸ hmem)
        have hqb : (x.toList == t.toList) = true := by rw [str_beq]; simpa using hq
        have hqt : x.toList = t.toList := beq_iff_eq.1 hqb
        clear hq hsn hx hmem
        go_wp2_with fail
        go_ret
        exact ⟨by rw [HT.out]; rfl, rfl⟩
      · have hqb : (x.toList == t.toList) = false := by rw [str_beq]; simpa using hq
        have hqt : ¬ x.toList = t.toList := beq_eq_false_iff_ne.1 hqb
        have HN2 : Hid (inL t (l.take (k + 1)) = false) := by show _ = _; rw [hsn, HN.out, decide_eq_false hq]; rfl
        clear hq hsn hx hmem
        go_wp2_with fail
        go_round
        case rel => exact ⟨k + 1, by go_num, by omega, HN2⟩
        case measure => simp [intOf]; omega
    · obtain rfl : k = l.length := by omega
      have HT : Hid (inL t l = false) := by have := HN.out; rwa [List.take_length] at this
      go_wp2_with fail
      go_ret
      exact ⟨by rw [HT.out]; rfl, rfl⟩
/-- lists of texts, each a row of its own -/
def OTxs (w : World) (B : Nat) (vs : List Value) (ls : List (List ByteArray)) : Prop := vs.length = ls.length ∧ ∀ (i : Nat) (l : List ByteArray), ls[i]? = some l → ∃ v, vs[i]? = some v ∧ w.ownsRow B 9 1 v l.length (l.map .string)
section
variable {w w' : World} {B : Nat} {vs : List Value} {ls : List (List ByteArray)} {v : Value} {l : List ByteArray} {T : Nat → Prop}
theorem OTxs.nil (w : World) (B : Nat) : OTxs w B [] [] := ⟨rfl, fun i l h => by simp at h⟩
theorem OTxs.txts (h : OTxs w B vs ls) : Txts w vs ls := ⟨h.1, fun i l hl => by obtain ⟨v, h1, h2⟩ := h.2 i l hl; exact ⟨v, h1, Txt.of_owns h2⟩⟩
theorem OTxs.fr (h : OTxs w B vs ls) (hf : Fr T w w') (hT : ∀ k, T k → ¬ TB w k) : OTxs w' B vs ls :=
  ⟨h.1, fun i l hl => by obtain ⟨v, h1, h2⟩ := h.2 i l hl; exact ⟨v, h1, owns_fr h2 hf (fun g hg ht => hT g ht (own_blk h2 hg).2.2)⟩⟩
theorem OTxs.fr2 (h : OTxs w B vs ls) (hf : Fr T w w') (hT : ∀ u ∈ vs, ∀ g, u.ownBlock = some g → ¬ T g) : OTxs w' B vs ls :=
  ⟨h.1, fun i l hl => by obtain ⟨v, h1, h2⟩ := h.2 i l hl; exact ⟨v, h1, owns_fr h2 hf (hT v (List.mem_of_getElem? h1))⟩⟩
theorem OTxs.snoc (h : OTxs w B vs ls) (hv : w.ownsRow B 9 1 v l.length (l.map .string)) : OTxs w B (vs ++ [v]) (ls ++ [l]) := by
  refine ⟨by simp [h.1], fun i x hx => ?_⟩
  rw [List.getElem?_append] at hx
  split at hx
  · obtain ⟨u, h1, h2⟩ := h.2 i x hx
    have := (List.getElem?_eq_some_iff.1 h1).1
    exact ⟨u, by rw [List.getElem?_append_left this]; exact h1, h2⟩
  · rename_i hge
    have hi : i - ls.length = 0 := by
      have := (List.getElem?_eq_some_iff.1 hx).1
      simp at this; omega
    rw [hi] at hx
    cases hx
    exact ⟨v, by rw [List.getElem?_append_right (by rw [h.1]; omega), h.1, hi]; rfl, hv⟩
theorem OTxs.one (h : OTxs w B vs ls) : ∀ u ∈ vs, u.oneCell' = true := txts_one h.txts
theorem OTxs.mem (h : OTxs w B vs ls) {u : Value} (hu : u ∈ vs) : ∃ l ∈ ls, w.ownsRow B 9 1 u l.length (l.map .string) := by
  obtain ⟨i, hi, rfl⟩ := List.getElem_of_mem hu
  obtain ⟨v, h1, h2⟩ := h.2 i _ (List.getElem?_eq_getElem (by rw [← h.1]; exact hi))
  rw [List.getElem?_eq_getElem hi] at h1
  cases h1
  exact ⟨_, List.getElem_mem _, h2⟩
end
theorem owns_base1 {w : World} {B B' : Nat} {e : TypeId} {size : Nat} {v : Value} {n : Nat} {xs : List Value} (h : w.ownsRow B' e size v n xs) (hb : B ≤ B') : w.ownsRow B e size v n xs := by
  obtain ⟨z1, z2 | ⟨g, cap, cur, ze, zb, zr⟩⟩ := h
  · exact ⟨z1, .inl z2⟩
  · exact ⟨z1, .inr ⟨g, cap, cur, ze, Nat.le_trans hb zb, zr⟩⟩
theorem run26_q (L : List Dd) : (run26 L).q.length ≤ L.length := by
  suffices h : ∀ (L : List Dd) (S : SS), (L.foldl st26 S).q.length ≤ S.q.length + L.length by simpa [run26, ss0] using h L ss0
  intro L
  induction L with
  | nil => intro S; simp
  | cons d L ih =>
    intro S
    refine Nat.le_trans (ih _) ?_
    have : (st26 S d).q.length ≤ S.q.length + 1 := by
      unfold st26
      repeat' split
      all_goals simp
    simp only [List.length_cons]
    omega
/-- what Queued hands back: rows of its own -/
def DPostG (w : World) (q : List (List ByteArray)) (e : Ending) (w' : World) : Prop :=
  ∃ v qs, e = .returned v ∧ w'.ownsRow w.heap.size 41 1 v q.length qs ∧ OTxs w' w.heap.size qs q ∧ Below w.heap.size w w'
set_option maxRecDepth 100000 in
set_option maxHeartbeats 2000000 in
theorem queuedR_any (w : World) (B q : Nat) (F : Nat → Prop) (vr : Value) (L : List Dd) (h : RefF w B F q vr L) :
    Calls Try.prog 75 #[.pointer (some ⟨q, 0, none⟩)] w (DPostG w (run26 L).q) := by
  have H := Lib.hid h
  have c1 := h.cell
  have hln := h.ln
  obtain ⟨a, c, rfl⟩ := owns_sliceN h.row
  obtain ⟨i0, hi, hz0, hz1, hz2⟩ := info_parts infoL
  have HI := Lib.hid hi
  have HZ0 := Lib.hid hz0
  have HZ1 := Lib.hid hz1
  have HZ2 := Lib.hid hz2
  clear h hi hz0 hz1 hz2
  go_enter Try.func75, Try.ntmps75
  go_wp2_with fail
  go_loopw [3, 13] (fun o i wr => ∃ (t : Nat) (qs : List Value), i = .int .i64 t ∧ t ≤ L.length ∧ Hid (wr.ownsRow w.heap.size 41 1 o (run26 (L.take t)).q.length qs) ∧ Hid (OTxs wr w.heap.size qs (run26 (L.take t)).q) ∧ Hid (Below w.heap.size w wr)) (fun _ i _ => L.length - (intOf i).toNat)
  case atStart => exact ⟨0, [], rfl, by omega, World.ownsRow_nil _ _ _ _, (show OTxs _ _ _ _ from OTxs.nil _ _), Below.refl _ _⟩
  case round =>
    obtain ⟨t, qs, rfl, ht, HO, HX, HB⟩ := hrel
    obtain ⟨wo, rfl⟩ : ∃ x, x = wr := ⟨_, rfl⟩
    obtain ⟨vv, hvv⟩ : ∃ v, v = u3 := ⟨_, rfl⟩
    subst hvv
    have hfb : Fr (fun _ => False) w wo := ⟨HB.out.os, HB.out.tape, HB.out.output, HB.out.size, fun k hk _ => HB.out.block k hk⟩
    by_cases hlt : t < L.length
    · obtain ⟨g, off, c', a2, c2, he, d0, d1, hv2, hrd⟩ := (H.out.quiet hfb).at_ t hlt
      cases he
      have hb0 : (0 : Int) ≤ (t : Int) := by omega
      have hb1 : (t : Int) < (L.length : Int) := by omega
      have hst := run26_take L t hlt
      have hwz := H.out.wsz L[t] (List.getElem_mem hlt)
      have hql := run26_q (L.take t)
      rw [List.length_take] at hql
      have hqb : (run26 (L.take t)).q.length ≤ 1099511627776 := by omega
      clear hql
      obtain ⟨d, hd⟩ : ∃ d, L[t] = d := ⟨_, rfl⟩
      rw [hd] at d0 d1 hst hrd hwz
      obtain ⟨S, hS⟩ : ∃ S, run26 (L.take t) = S := ⟨_, rfl⟩
      rw [hS] at hst hqb HO HX
      obtain ⟨kk, hkk⟩ : ∃ k, d.k = k := ⟨_, rfl⟩
      rw [hkk] at d0
      obtain ⟨W2, hW2⟩ : ∃ W, wo.alloc (.cells #[.int .i64 kk, .slice a2 d.ws.length c2] 118) = W := ⟨_, rfl⟩
      have hbx : W2.heap[wo.heap.size]? = some (.cells #[.int .i64 kk, .slice a2 d.ws.length c2] 118 (0, 0)) := by rw [← hW2]; exact alloc_at _ _
      have HFA : Hid (Fr (fun _ => False) wo W2) := by rw [← hW2]; exact Fr.alloc _ _ _
      have HO2 : Hid (W2.ownsRow w.heap.size 41 1 vv S.q.length qs) := owns_fr HO.out HFA.out (fun _ _ h => h)
      have HX2 : Hid (OTxs W2 w.heap.size qs S.q) := HX.out.fr HFA.out (fun _ h => h.elim)
      have HB2 : Hid (Below w.heap.size w W2) := HB.out.trans (HFA.out.below HB.out.size (fun _ h => h.elim))
      have HRD : Hid (RdC W2 1 (.slice a2 d.ws.length c2) d.ws.length (d.ws.map .string)) := hrd.fr HFA.out (fun _ _ h => h)
      have x0 : W2.cell? ⟨wo.heap.size, 0, none⟩ = some (.int .i64 kk) := cell_of_blk hbx 0
      have x1 : W2.cell? ⟨wo.heap.size, 1, none⟩ = some (.slice a2 d.ws.length c2) := cell_of_blk hbx 1
      have hxl : wo.heap.size < W2.heap.size := (Array.getElem?_eq_some_iff.1 hbx).1
      have HC := Lib.hid (twin_any (.slice a2 d.ws.length c2) d.ws W2 HRD.out (by omega))
      by_cases h4 : kk = 4
      · have HST : Hid ((run26 (L.take (t + 1))).q = []) := by show _ = _; rw [hst]; unfold st26; simp [hkk, h4]
        subst h4
        clear hst hkk hd hS hbx hrd hfb hv2
        go_wp2_with fail
        go_roundw
        case rel => exact ⟨t + 1, [], by go_num, by omega, by rw [HST.out]; exact World.ownsRow_nil _ _ _ _, by rw [HST.out]; exact OTxs.nil _ _, HB2.out⟩
        case measure => simp [intOf]; omega
      · have g4 : (kk == 4) = false := by rw [beq_eq_false_iff_ne]; exact h4
        by_cases h2 : kk = 2
        · have HST : Hid ((run26 (L.take (t + 1))).q = S.q ++ [d.ws]) := by show _ = _; rw [hst]; unfold st26; simp [hkk, h2]
          subst h2
          clear hst hkk hd hS hbx hrd hfb hv2 h4 g4
          go_wp2_with fail
          refine HC.out.mono ?_
          rintro e w1 ⟨a1, c1, rfl, hr1, hb1'⟩
          have HF1 : Hid (Fr (fun _ => False) W2 w1) := ⟨hb1'.os, hb1'.tape, hb1'.output, hb1'.size, fun k hk _ => hb1'.block k hk⟩
          have HO1 : Hid (w1.ownsRow w.heap.size 41 1 vv S.q.length qs) := owns_fr HO2.out HF1.out (fun _ _ h => h)
          have HX1 : Hid (OTxs w1 w.heap.size (qs ++ [.slice a1 d.ws.length c1]) (S.q ++ [d.ws])) := (HX2.out.fr HF1.out (fun _ h => h.elim)).snoc (owns_base1 hr1 HB2.out.size)
          have HB1 : Hid (Below w.heap.size w w1) := HB2.out.trans (HF1.out.below HB2.out.size (fun _ h => h.elim))
          clear hr1 hb1' hW2 x0 x1
          obtain ⟨va, vc, rfl⟩ := owns_sliceN HO1.out
          go_wp2_with (at_builtin; refine wpList_append_own _ rfl (.tmp 23) (.tmp 27) 40 rfl w.heap.size 41 i0 (.slice none 0 0) 1 24 Try.underlying40 HI.out HZ0.out HZ1.out HZ2.out rfl (by decide) _ S.q.length qs rfl (HO1.out.alloc _) ⟨w1.heap.size, 0, none⟩ 1 1 [.slice a1 d.ws.length c1] rfl rfl (cell_one_new _ _ _) (by simp [Value.oneCell']) (by unfold maxLen; omega) (by omega) (by have := HB1.out.size; simp; omega) ?_; intro v' w2 hown hgrow _; have HO3 := Lib.hid hown; have HG := Lib.hid hgrow; clear hown hgrow)
          go_roundw
          case rel =>
            refine ⟨t + 1, _, by go_num, by omega, by rw [HST.out, List.length_append]; exact HO3.out, ?_, ?_⟩
            · rw [HST.out]
              refine HX1.out.fr ((Fr.alloc (fun k => (Value.slice va S.q.length vc).ownBlock = some k) w1 _).wide (Fr.of_grownBy HG.out) (fun i hi => .inl hi)) (fun g hg => ?_)
              obtain ⟨_, _, cs, hcs⟩ := own_blk HO1.out hg
              exact not_tb hcs (by decide)
            · exact (HB1.out.alloc HB1.out.size _).grown HG.out (by have := HB1.out.size; simp; omega) (fun g hg => (own_blk HO1.out hg).1)
          case measure => simp [intOf]; omega
        · have g2 : (kk == 2) = false := by rw [beq_eq_false_iff_ne]; exact h2
          have HST : Hid ((run26 (L.take (t + 1))).q = S.q) := by
            show _ = _
            rw [hst]
            unfold st26
            rw [hkk]
            repeat' split
            all_goals first | rfl | (exfalso; omega)
          clear hst hkk hd hS hbx hrd hfb hv2 h4 h2
          go_wp2_with fail
          go_roundw
          case rel => exact ⟨t + 1, qs, by go_num, by omega, by rw [HST.out]; exact HO2.out, by rw [HST.out]; exact HX2.out, HB2.out⟩
          case measure => simp [intOf]; omega
    · obtain rfl : t = L.length := by omega
      rw [List.take_length] at HO HX
      obtain ⟨va, vc, rfl⟩ := owns_sliceN HO.out
      go_wp2_with fail
      go_ret
      exact ⟨_, qs, rfl, HO.out, HX.out, HB.out⟩
end Go.Proofs.Ytpcjogmikgfgdaa
