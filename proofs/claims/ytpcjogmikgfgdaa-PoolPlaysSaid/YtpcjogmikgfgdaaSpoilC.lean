/- pantrylaw14's spoil: it writes in its own row and in new memory alone; row: both tell the same, in memory of their own. No condition. -/
import Derived.Test.YtpcjogmikgfgdaaRefD
namespace Go.Proofs.Ytpcjogmikgfgdaa
open Go.RowKit Go.Sort
def OwnF (v : Value) (w : World) (e : Ending) (w' : World) : Prop := (∃ u, e = .returned u) ∧ Fr (fun i => v.ownBlock = some i) w w'
set_option maxRecDepth 100000 in
set_option maxHeartbeats 2000000 in
theorem spoilC_any (w : World) (B : Nat) (v : Value) (l : List Cd) (h : w.ownsRow B 73 2 v l.length (clC l)) (hn : l.length ≤ 17) (hB : B ≤ w.heap.size) :
    Calls Try.prog 88 #[v] w (OwnF v w) := by
  obtain ⟨i0, hi, hz0, hz1, hz2⟩ := info_parts infoC
  have HI := Lib.hid hi
  have HZ0 := Lib.hid hz0
  have HZ1 := Lib.hid hz1
  have HZ2 := Lib.hid hz2
  have H := Lib.hid h
  obtain ⟨a, c, rfl⟩ := owns_sliceN h
  obtain ⟨n, hnl⟩ : ∃ n, l.length = n := ⟨_, rfl⟩
  have HNL := Lib.hid hnl
  rw [hnl] at H hn ⊢
  clear h hi hz0 hz1 hz2 hnl
  go_enter Try.func88, Try.ntmps88
  go_wp2_with fail
  go_loopw [5] (fun i wr => ∃ (j : Nat) (M : List Cd), i = .int .i64 j ∧ j ≤ n ∧ Hid (wr.ownsRow B 73 2 (.slice a n c) n (clC M)) ∧ Hid (Fr (fun i => (Value.slice a n c).ownBlock = some i) w wr)) (fun i _ => n - (intOf i).toNat)
  case atStart => exact ⟨0, l, rfl, by omega, H.out, Fr.refl _ _⟩
  case round =>
    obtain ⟨j, M, rfl, hj, HO, HF⟩ := hrel
    obtain ⟨wo, rfl⟩ : ∃ x, x = wr := ⟨_, rfl⟩
    by_cases hlt : j < n
    · have hO := HO.out
      obtain ⟨-, ⟨h9, h99⟩ | ⟨g, rc, cur, he, _⟩⟩ := hO
      · omega
      cases he
      obtain ⟨⟨q0, y0⟩, yf0, hg0q⟩ := row_cell HO.out (show j * 2 < n * 2 by omega)
      obtain ⟨⟨q1, y1⟩, yf1, _⟩ := row_cell HO.out (show j * 2 + 1 < n * 2 by omega)
      have HS1 := Lib.hid (own_putK HO.out (show j * 2 < n * 2 by omega) (.string ⟨#[126]⟩))
      have HS2 := Lib.hid (own_putK HS1.out (show j * 2 + 1 < n * 2 by omega) (.int .u64 77))
      have hc0 : (0 : Int) ≤ (j : Int) := by omega
      have hc1 : (j : Int) < (n : Int) := by omega
      have HFN : Hid (Fr (fun i => (Value.slice (some ⟨g, 0, none⟩) n c).ownBlock = some i) w ((wo.setCell ⟨g, j * 2, none⟩ (.string ⟨#[126]⟩)).setCell ⟨g, j * 2 + 1, none⟩ (.int .u64 77))) :=
        (HF.out.wide (Fr.setCell wo ⟨g, j * 2, none⟩ _) (fun i hi => .inl (by rw [hi]; rfl))).wide (Fr.setCell _ ⟨g, j * 2 + 1, none⟩ _) (fun i hi => .inl (by rw [hi]; rfl))
      go_wp2_with fail
      go_roundw
      case rel => exact ⟨j + 1, M.set j ⟨⟨#[126]⟩, 77⟩, by go_num, by omega, by rw [← clC_set]; exact HS2.out, HFN.out⟩
      case measure => simp [intOf]; omega
    · obtain rfl : j = n := by omega
      go_wp2_with fail
      go_loopw [0, 13] (fun v2 i wr => ∃ (j2 : Nat) (xs : List Value), i = .int .i64 j2 ∧ j2 ≤ 20 ∧ Hid (wr.ownsRow B 73 2 v2 (j + j2) xs) ∧ Hid (∀ g, v2.ownBlock = some g → (Value.slice a j c).ownBlock = some g ∨ w.heap.size ≤ g) ∧ Hid (Fr (fun i => (Value.slice a j c).ownBlock = some i) w wr)) (fun _ i _ => 20 - (intOf i).toNat)
      case atStart => exact ⟨0, clC M, rfl, by omega, HO.out, fun g hg => .inl hg, HF.out⟩
      case round =>
        obtain ⟨j2, xs, rfl, hj2, HO2, HG2, HF2⟩ := hrel
        obtain ⟨wq, rfl⟩ : ∃ x, x = wr := ⟨_, rfl⟩
        obtain ⟨vv, hvv⟩ : ∃ v, v = u0 := ⟨_, rfl⟩
        subst hvv
        obtain ⟨a2, c2, rfl⟩ := owns_sliceN HO2.out
        have hbq : B ≤ wq.heap.size := Nat.le_trans hB HF2.out.size
        by_cases hlt2 : j2 < 20
        · have g1 : decide ((j2 : Int) < 20) = true := by rw [decide_eq_true_eq]; omega
          have hlt3 : (j2 : Int) < 20 := by omega
          go_wp2_with (at_builtin; refine wpList_append_lies _ rfl (.tmp 15) (.tmp 17) 67 rfl B 73 i0 (.agg #[.string ⟨#[]⟩, .int .u64 0]) 2 24 Try.underlying67 HI.out HZ0.out HZ1.out HZ2.out rfl (by decide) _ (j + j2) xs rfl (HO2.out.alloc _) ⟨wq.heap.size, 0, none⟩ 1 1 [.string ⟨#[126]⟩, .int .u64 77] rfl rfl (cells_two_new _ _ _ _) (by simp [Value.oneCell']) (by decide) (by unfold maxLen; omega) (by omega) (by simp; omega) (wq.heap.size + 1) (by simp) ?_; intro g3 cap3 w4 hown hgrow hat hlt3; have HO4 := Lib.hid hown; have HAT := Lib.hid hat; have HF4 := Lib.hid (HF2.out.wide (T := fun k => (Value.slice a2 (j + j2) c2).ownBlock = some k) ((Fr.alloc _ wq _).wide (Fr.of_grownBy hgrow) (fun i hi => .inl hi)) (fun i hi => HG2.out i hi)); clear hown hgrow hat hlt3)
          go_roundw
          case rel => exact ⟨j2 + 1, _, by go_num, by omega, HO4.out, fun g hg => by
            have h5 : g3 = g := Option.some.inj hg
            rcases HAT.out with h6 | h6
            · have h7 : (Value.slice a2 (j + j2) c2).ownBlock = some g3 := h6
              exact HG2.out g (by rw [h7, h5])
            · exact .inr (by have := HF2.out.size; rw [← h5, h6]; omega), HF4.out⟩
          case measure => simp [intOf]; omega
        · have hj20 : j2 = 20 := by omega
          subst hj20
          go_wp2_with fail
          go_end0
          exact ⟨⟨_, rfl⟩, HF2.out⟩
set_option maxRecDepth 100000 in
set_option maxHeartbeats 2000000 in
theorem row_any (w : World) (B B' p q cap : Nat) (vr vq : Value) (l A : List Cd) (hp : PoolAt w B p cap vr l) (hq : RefAt w B' q cap vq A) (hs : Srt cap l A) :
    Calls Try.prog 54 #[.pointer (some ⟨p, 0, none⟩), .pointer (some ⟨q, 0, none⟩)] w fun e w' => e = .returned (.bool true) ∧ Fr (fun _ => False) w w' := by
  have HP := Lib.hid hp
  have hcr := candR_any w B' q cap vq A hq hs.ap.nodup
  rw [← hs.so] at hcr
  have HCR := Lib.hid hcr
  have hll := hp.len
  clear hp hq hs hcr
  go_enter Try.func54, Try.ntmps54
  go_wp2_with fail
  refine HCR.out.mono ?_
  rintro e w1 ⟨v1, rfl, hr1, hb1⟩
  have HR1 := Lib.hid hr1
  have HB1 : Hid (Fr (fun _ => False) w w1) := ⟨hb1.os, hb1.tape, hb1.output, hb1.size, fun k hk _ => hb1.block k hk⟩
  have HP1 := Lib.hid (HP.out.quiet HB1.out)
  clear hr1 hb1
  go_wp2_with fail
  refine (candidates_any w1 B p cap vr l HP1.out).mono ?_
  rintro e w2 ⟨v2, rfl, hr2, hb2⟩
  have HR2 := Lib.hid hr2
  have HB2 : Hid (Fr (fun _ => False) w1 w2) := ⟨hb2.os, hb2.tape, hb2.output, hb2.size, fun k hk _ => hb2.block k hk⟩
  have HP2 := Lib.hid (HP1.out.quiet HB2.out)
  clear hr2 hb2
  go_wp2_with fail
  refine (candidates_any w2 B p cap vr l HP2.out).mono ?_
  rintro e w3 ⟨v3, rfl, hr3, hb3⟩
  have HR3 := Lib.hid hr3
  have HB3 : Hid (Fr (fun _ => False) w2 w3) := ⟨hb3.os, hb3.tape, hb3.output, hb3.size, fun k hk _ => hb3.block k hk⟩
  have HP3 := Lib.hid (HP2.out.quiet HB3.out)
  have HR13 : Hid (w3.ownsRow w.heap.size 73 2 v1 l.length (clC l)) := owns_fr (owns_fr HR1.out HB2.out (fun _ _ h => h)) HB3.out (fun _ _ h => h)
  have HR23 : Hid (w3.ownsRow w1.heap.size 73 2 v2 l.length (clC l)) := owns_fr HR2.out HB3.out (fun _ _ h => h)
  have HL1 : Hid (∀ g, v1.ownBlock = some g → g < w1.heap.size) := fun g hg => (own_blk HR1.out hg).2.1
  have HL2 : Hid (∀ g, v2.ownBlock = some g → w1.heap.size ≤ g ∧ g < w2.heap.size) := fun g hg => ⟨(own_blk HR2.out hg).1, (own_blk HR2.out hg).2.1⟩
  have HL3 : Hid (∀ g, v3.ownBlock = some g → w2.heap.size ≤ g) := fun g hg => (own_blk HR3.out hg).1
  have HFr3 : Hid (Fr (fun _ => False) w w3) := (HB1.out.wide HB2.out (fun _ h => h.elim)).wide HB3.out (fun _ h => h.elim)
  have HZ1 := Lib.hid HB1.out.size
  have HZ2 := Lib.hid HB2.out.size
  have HZ3 := Lib.hid HB3.out.size
  clear hr3 hb3
  have hsm1 := sameC_any w3 v2 v1 l l (RdC.of_owns HR23.out) (RdC.of_owns HR13.out)
  rw [decide_eq_true rfl] at hsm1
  have HSM1 := Lib.hid hsm1
  clear hsm1
  go_wp2_with fail
  refine HSM1.out.mono ?_
  rintro e w4 ⟨rfl, hf4⟩
  have HF4 := Lib.hid hf4
  have HR14 : Hid (w4.ownsRow w.heap.size 73 2 v1 l.length (clC l)) := owns_fr HR13.out hf4 (fun _ _ h => h)
  have HR24 : Hid (w4.ownsRow w1.heap.size 73 2 v2 l.length (clC l)) := owns_fr HR23.out hf4 (fun _ _ h => h)
  have HR34 : Hid (w4.ownsRow w2.heap.size 73 2 v3 l.length (clC l)) := owns_fr HR3.out hf4 (fun _ _ h => h)
  clear hf4
  have hsm1 := sameC_any w4 v3 v1 l l (RdC.of_owns HR34.out) (RdC.of_owns HR14.out)
  rw [decide_eq_true rfl] at hsm1
  have HSM2 := Lib.hid hsm1
  clear hsm1
  go_wp2_with fail
  refine HSM2.out.mono ?_
  rintro e w5 ⟨rfl, hf5⟩
  have HF5 : Hid (Fr (fun _ => False) w3 w5) := HF4.out.wide hf5 (fun _ h => h.elim)
  have HR15 : Hid (w5.ownsRow w.heap.size 73 2 v1 l.length (clC l)) := owns_fr HR14.out hf5 (fun _ _ h => h)
  have HR25 : Hid (w5.ownsRow w1.heap.size 73 2 v2 l.length (clC l)) := owns_fr HR24.out hf5 (fun _ _ h => h)
  have HR35 : Hid (w5.ownsRow w2.heap.size 73 2 v3 l.length (clC l)) := owns_fr HR34.out hf5 (fun _ _ h => h)
  have HP5 := Lib.hid (HP3.out.quiet HF5.out)
  clear hf5
  have HSP1 := Lib.hid (spoilC_any w5 w1.heap.size v2 l HR25.out hll (Nat.le_trans (Nat.le_trans HZ2.out HZ3.out) HF5.out.size))
  go_wp2_with fail
  refine HSP1.out.mono ?_
  rintro e w6 ⟨⟨u6, rfl⟩, hf6⟩
  have HR16 : Hid (w6.ownsRow w.heap.size 73 2 v1 l.length (clC l)) := owns_fr HR15.out hf6 (fun g h1 h2 => by have h5 := HL1.out g h1; have h6 := HL2.out g h2; omega)
  have HR36 : Hid (w6.ownsRow w2.heap.size 73 2 v3 l.length (clC l)) := owns_fr HR35.out hf6 (fun g h1 h2 => by have h5 := HL3.out g h1; have h6 := HL2.out g h2; omega)
  have HF6 : Hid (Fr (fun _ => False) w w6) := (HFr3.out.wide HF5.out (fun _ h => h.elim)).wide hf6 (fun i hi => .inr (by have h5 := HL2.out i hi; have := HZ1.out; omega))
  have HZ56 := Lib.hid hf6.size
  clear hf6
  have hsm1 := sameC_any w6 v3 v1 l l (RdC.of_owns HR36.out) (RdC.of_owns HR16.out)
  rw [decide_eq_true rfl] at hsm1
  have HSM3 := Lib.hid hsm1
  clear hsm1
  go_wp2_with fail
  refine HSM3.out.mono ?_
  rintro e w7 ⟨rfl, hf7⟩
  have HR17 : Hid (w7.ownsRow w.heap.size 73 2 v1 l.length (clC l)) := owns_fr HR16.out hf7 (fun _ _ h => h)
  have HR37 : Hid (w7.ownsRow w2.heap.size 73 2 v3 l.length (clC l)) := owns_fr HR36.out hf7 (fun _ _ h => h)
  have HF7 : Hid (Fr (fun _ => False) w w7) := HF6.out.wide hf7 (fun _ h => h.elim)
  have HZ57 := Lib.hid (Nat.le_trans HZ56.out hf7.size)
  clear hf7
  have HSP2 := Lib.hid (spoilC_any w7 w2.heap.size v3 l HR37.out hll (Nat.le_trans HZ3.out (Nat.le_trans HF5.out.size HZ57.out)))
  go_wp2_with fail
  refine HSP2.out.mono ?_
  rintro e w8 ⟨⟨u8, rfl⟩, hf8⟩
  have HR18 : Hid (w8.ownsRow w.heap.size 73 2 v1 l.length (clC l)) := owns_fr HR17.out hf8 (fun g h1 h2 => by have h5 := HL1.out g h1; have h6 := HL3.out g h2; have := HZ2.out; omega)
  have HF8 : Hid (Fr (fun _ => False) w w8) := HF7.out.wide hf8 (fun i hi => .inr (by have h5 := HL3.out i hi; have := HZ1.out; have := HZ2.out; omega))
  have HP8 := Lib.hid (HP.out.quiet HF8.out)
  clear hf8
  go_wp2_with fail
  refine (candidates_any w8 B p cap vr l HP8.out).mono ?_
  rintro e w9 ⟨v9, rfl, hr9, hb9⟩
  have HR9 := Lib.hid hr9
  have HB9 : Hid (Fr (fun _ => False) w8 w9) := ⟨hb9.os, hb9.tape, hb9.output, hb9.size, fun k hk _ => hb9.block k hk⟩
  clear hr9 hb9
  have hsm1 := sameC_any w9 v9 v1 l l (RdC.of_owns HR9.out) (RdC.of_owns (owns_fr HR18.out HB9.out (fun _ _ h => h)))
  rw [decide_eq_true rfl] at hsm1
  have HSM4 := Lib.hid hsm1
  clear hsm1
  go_wp2_with fail
  refine HSM4.out.mono ?_
  rintro e w10 ⟨rfl, hf10⟩
  have HF10 : Hid (Fr (fun _ => False) w w10) := (HF8.out.wide HB9.out (fun _ h => h.elim)).wide hf10 (fun _ h => h.elim)
  clear hf10
  go_wp2_with fail
  go_ret
  exact ⟨rfl, HF10.out⟩
end Go.Proofs.Ytpcjogmikgfgdaa
