/- pantrylaw26's sameLists, with: plain answers. No condition. -/
import Derived.Test.YtpcjogmikgfgdaaSessB
import Derived.Test.YtpcjogmikgfgdaaSameT
namespace Go.Proofs.Ytpcjogmikgfgdaa
open Go.RowKit
/-- lists of lists of texts that are read -/
def Ls (w : World) (v : Value) (ls : List (List ByteArray)) : Prop := ∃ vs, RdC w 1 v ls.length vs ∧ ∀ (i : Nat) (l : List ByteArray), ls[i]? = some l → ∃ u, vs[i]? = some u ∧ RdC w 1 u l.length (l.map .string)
theorem Ls.len {w : World} {v : Value} {ls : List (List ByteArray)} (h : Ls w v ls) : ls.length ≤ 9223372036854775807 := by obtain ⟨vs, h1, _⟩ := h; have := h1.len; unfold maxLen at this; exact this
theorem Ls.slice {w : World} {v : Value} {ls : List (List ByteArray)} (h : Ls w v ls) : ∃ a c, v = .slice a ls.length c := by obtain ⟨vs, ⟨_, a, c, rfl, _⟩, _⟩ := h; exact ⟨a, c, rfl⟩
theorem Ls.at {w : World} {a : Option Addr} {n c : Nat} {ls : List (List ByteArray)} (h : Ls w (.slice a n c) ls) (k : Nat) (hk : k < ls.length) :
    ∃ g off u, a = some ⟨g, off, none⟩ ∧ w.cell? ⟨g, off + k, none⟩ = some u ∧ RdC w 1 u ls[k].length (ls[k].map .string) := by
  obtain ⟨vs, h1, h2⟩ := h
  obtain ⟨u, hu, hr⟩ := h2 k _ (List.getElem?_eq_getElem hk)
  have hn : n = ls.length := by obtain ⟨_, _, _, e, _⟩ := h1; cases e; rfl
  subst hn
  obtain ⟨g, off, rfl, hc⟩ := h1.at (by have := h1.1; omega)
  exact ⟨g, off, u, rfl, hc k u hu, hr⟩
theorem Ls.fr {w w' : World} {T : Nat → Prop} {v : Value} {ls : List (List ByteArray)} (h : Ls w v ls) (hf : Fr (fun _ => False) w w') : Ls w' v ls := by
  obtain ⟨vs, h1, h2⟩ := h
  exact ⟨vs, h1.fr hf (fun _ _ h => h), fun i l hl => by obtain ⟨u, hu, hr⟩ := h2 i l hl; exact ⟨u, hu, hr.fr hf (fun _ _ h => h)⟩⟩
theorem Ls.of_owns {w : World} {B : Nat} {v : Value} {ls : List (List ByteArray)} {qs : List Value} (h : w.ownsRow B 41 1 v ls.length qs) (ht : Txts w qs ls) : Ls w v ls :=
  ⟨qs, RdC.of_owns h, fun i l hl => by obtain ⟨u, hu, hr⟩ := ht.2 i l hl; exact ⟨u, hu, hr.1⟩⟩
set_option maxRecDepth 100000 in
set_option maxHeartbeats 1000000 in
theorem sameLs_any (w : World) (v1 v2 : Value) (l1 l2 : List (List ByteArray)) (h1 : Ls w v1 l1) (h2 : Ls w v2 l2) :
    Calls Try.prog 27 #[v1, v2] w fun e w' => e = .returned (.bool (decide (l1 = l2))) ∧ ∃ m, w' = w.drewN m := by
  have hm1 := h1.len
  have hm2 := h2.len
  have H1 := Lib.hid h1
  have H2 := Lib.hid h2
  obtain ⟨a1, c1, rfl⟩ := h1.slice
  obtain ⟨a2, c2, rfl⟩ := h2.slice
  clear h1 h2
  by_cases hl : l1.length = l2.length
  case neg =>
    have hne : decide (l1 = l2) = false := decide_eq_false (fun e => hl (by rw [e]))
    have g : ((l1.length : Int) != l2.length) = true := by rw [bne_iff_ne]; omega
    rw [hne]
    clear hne hl
    go_enter Try.func27, Try.ntmps27
    go_wp2
    go_ret
    exact ⟨rfl, 0, rfl⟩
  case pos =>
    have g : ((l1.length : Int) != l2.length) = false := by rw [bne_eq_false_iff_eq]; omega
    have HL := Lib.hid hl
    clear hl
    go_enter Try.func27, Try.ntmps27
    go_wp2
    go_loopw [13] (fun i wr => ∃ k m : Nat, i = .int .i64 k ∧ k ≤ l1.length ∧ Hid (wr = w.drewN m) ∧ Hid (l1.take k = l2.take k)) (fun i _ => l1.length - (intOf i).toNat)
    case atStart => exact ⟨0, 0, rfl, by omega, (show w = w.drewN 0 from rfl), (show _ = _ from rfl)⟩
    case round =>
      obtain ⟨k, m, rfl, hk, HW, HE⟩ := hrel
      obtain ⟨wo, rfl⟩ : ∃ wo, wo = wr := ⟨_, rfl⟩
      by_cases hlt : k < l1.length
      · have hlt2 : k < l2.length := by have := HL.out; omega
        have hb1 : (k : Int) < (l1.length : Int) := by omega
        have hb2 : (k : Int) < (l2.length : Int) := by omega
        have hb0 : (0 : Int) ≤ (k : Int) := by omega
        obtain ⟨g1, o1, u1, rfl, c1, hx1⟩ := H1.out.at k hlt
        obtain ⟨g2, o2, u2, rfl, c2, hx2⟩ := H2.out.at k hlt2
        have c1' : wo.cell? ⟨g1, o1 + k, none⟩ = some u1 := by rw [HW.out]; exact c1
        have c2' : wo.cell? ⟨g2, o2 + k, none⟩ = some u2 := by rw [HW.out]; exact c2
        have HS : Hid (∀ n, Calls Try.prog 42 #[u1, u2] (wo.drewN n) fun e w' => e = .returned (.bool (decide (l1[k] = l2[k]))) ∧ ∃ m, w' = wo.drewN m) := fun n =>
          (sameT_any (wo.drewN n) u1 u2 l1[k] l2[k] (by rw [HW.out]; exact hx1) (by rw [HW.out]; exact hx2)).mono fun e w' ⟨h2, m', h3⟩ => ⟨h2, n + m', by rw [h3]; exact drewN_drewN _ _ _⟩
        obtain ⟨x, hx⟩ : ∃ x, l1[k] = x := ⟨_, rfl⟩
        obtain ⟨y, hy⟩ : ∃ y, l2[k] = y := ⟨_, rfl⟩
        rw [hx, hy] at HS
        have HX := Lib.hid hx
        have HY := Lib.hid hy
        clear c1 c2 hx hy hx1 hx2
        by_cases hxy : x = y
        · have hd : decide (x = y) = true := decide_eq_true hxy
          rw [hd] at HS
          have hts : Hid (l1.take (k + 1) = l2.take (k + 1)) := by
            show _ = _
            rw [List.take_succ_eq_append_getElem hlt, List.take_succ_eq_append_getElem hlt2, HE.out, HX.out, HY.out, hxy]
          clear hxy hd
          go_upto_region 6 with (fail)
          go_quiet ((go_at_call 42; with_reducible exact HS.out _))
          go_wp2
          go_roundw
          case rel => exact ⟨k + 1, m + nq, by go_num, by omega, (show wo.drewN nq = _ by rw [HW.out]; exact drewN_drewN _ _ _), hts⟩
          case measure => simp [intOf]; omega
        · have hd : decide (x = y) = false := decide_eq_false hxy
          rw [hd] at HS
          have hne : decide (l1 = l2) = false := decide_eq_false (fun e => hxy (by rw [← HX.out, ← HY.out]; subst e; rfl))
          have HNE := Lib.hid hne
          clear hne hxy hd
          go_upto_region 6 with (fail)
          go_quiet ((go_at_call 42; with_reducible exact HS.out _))
          go_wp2
          go_ret
          exact ⟨by rw [HNE.out]; rfl, m + nq, by rw [HW.out]; exact drewN_drewN _ _ _⟩
      · obtain rfl : k = l1.length := by omega
        have heq : decide (l1 = l2) = true := decide_eq_true (by have := HE.out; rwa [List.take_length, HL.out, List.take_length] at this)
        have HNE := Lib.hid heq
        clear heq
        go_wp2
        go_ret
        exact ⟨by rw [HNE.out]; rfl, m, HW.out⟩
theorem with_any (w : World) (b : Bool) (c : Int) : Calls Try.prog 24 #[.bool b, .int .i64 c] w fun e w' => e = .returned (.int .i64 (if b then c else 0)) ∧ w = w' := by
  cases b
  all_goals
    go_enter Try.func24, Try.ntmps24
    go_wp2
    go_ret
    exact ⟨rfl, rfl⟩
end Go.Proofs.Ytpcjogmikgfgdaa
