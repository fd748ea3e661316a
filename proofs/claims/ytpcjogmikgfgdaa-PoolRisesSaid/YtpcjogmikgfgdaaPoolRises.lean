/- PoolRises: behind every step never more than may be, rising, each key once; what Offer tells is so. No condition. -/
import Derived.Test.YtpcjogmikgfgdaaRiseP
import Derived.Test.YtpcjogmikgfgdaaStep14
import Derived.Deep.QuietTactic
import Derived.BigQuiet
import Derived.StillTailTactics
import Derived.IntWalk
import Derived.Outline
namespace Go.Proofs.Ytpcjogmikgfgdaa
open Go.ChangeShapes Go.WideShapes Go.ChangeAt Go.RowKit
theorem sp_at {w : World} {a : Option Addr} {n cap : Nat} {l : List Sp} (h : RdC w 4 (.slice a n cap) n (l.flatMap spC)) (k : Nat) (hk : k < l.length) :
    ∃ g off, a = some ⟨g, off, none⟩ ∧ w.cell? ⟨g, off + k * 4, none⟩ = some (.int .i64 l[k].who) ∧ w.cell? ⟨g, off + k * 4 + 1, none⟩ = some (.int .i64 l[k].do_) ∧ w.cell? ⟨g, off + k * 4 + 2, none⟩ = some (.string l[k].c.key) ∧ w.cell? ⟨g, off + k * 4 + 3, none⟩ = some (.int .u64 l[k].c.rank) := by
  have hf := fun j hj => flat_at spC 4 spC_len l k j hk hj
  have hpos : 0 < (l.flatMap spC).length := by
    have := hf 0 (by decide)
    have h2 : (spC l[k])[0]? = some (.int .i64 l[k].who) := rfl
    rw [h2] at this
    have := (List.getElem?_eq_some_iff.1 this).1
    omega
  obtain ⟨g, off, rfl, hc⟩ := h.at hpos
  refine ⟨g, off, rfl, ?_, ?_, ?_, ?_⟩
  · exact hc (k * 4 + 0) _ (by rw [hf 0 (by decide)]; rfl)
  · rw [Nat.add_assoc]; exact hc (k * 4 + 1) _ (by rw [hf 1 (by decide)]; rfl)
  · rw [Nat.add_assoc]; exact hc (k * 4 + 2) _ (by rw [hf 2 (by decide)]; rfl)
  · rw [Nat.add_assoc]; exact hc (k * 4 + 3) _ (by rw [hf 3 (by decide)]; rfl)
/-- the pool, a row of candidates apart from it, and the step's box -/
structure Ux (w : World) (B p N s : Nat) (o : Sp) (vr : Value) (l : List Cd) (vu : Value) (U : List Cd) (V : World) : Prop where
  un : Un w B p N vr l vu U V
  st : V.heap[s]? = some (.cells #[.int .i64 o.who, .int .i64 o.do_, .string o.c.key, .int .u64 o.c.rank] 87 (0, 0))
  ps : p ≠ s
  ap : ∀ g, vr.ownBlock = some g → g ≠ s
section
variable {w V V' : World} {B p N s : Nat} {o : Sp} {vr vr' vu : Value} {l l' U : List Cd}
theorem Ux.turn (h : Ux w B p N s o vr l vu U V) (hp : PoolAt V' B p N vr' l') (hf : Fr (fun i => i = p ∨ vr.ownBlock = some i) V V') (ha : ∀ g, vr'.ownBlock = some g → vr.ownBlock = some g ∨ V.heap.size ≤ g) : Ux w B p N s o vr' l' vu U V' := by
  have hs := (Array.getElem?_eq_some_iff.1 h.st).1
  refine ⟨h.un.turn hp hf ha, (hf.block s hs (fun e => ?_)).trans h.st, h.ps, fun g hg e => ?_⟩
  · rcases e with e | e
    · exact h.ps e.symm
    · exact h.ap s e rfl
  · rcases ha g hg with h3 | h3
    · exact h.ap g h3 e
    · omega
theorem Ux.quiet (h : Ux w B p N s o vr l vu U V) (hf : Fr (fun _ => False) V V') : Ux w B p N s o vr l vu U V' :=
  h.turn (h.un.k.a.quiet hf) (hf.mono (fun _ h => h.elim)) (fun g hg => .inl hg)
theorem Ux.cells (h : Ux w B p N s o vr l vu U V) : V.cell? ⟨s, 0, none⟩ = some (.int .i64 o.who) ∧ V.cell? ⟨s, 1, none⟩ = some (.int .i64 o.do_) ∧ V.cell? ⟨s, 2, none⟩ = some (.string o.c.key) ∧ V.cell? ⟨s, 3, none⟩ = some (.int .u64 o.c.rank) ∧ s < V.heap.size :=
  ⟨cell_of_blk h.st 0, cell_of_blk h.st 1, cell_of_blk h.st 2, cell_of_blk h.st 3, (Array.getElem?_eq_some_iff.1 h.st).1⟩
end
/-- what a step leaves -/
structure Left (N : Nat) (o : Sp) (l l' : List Cd) (b : Bool) : Prop where
  ris : Ris N l'
  off : o.do_ = 0 → b = amC o.c l' ∧ l.length ≤ l'.length ∧ (b = false → l' = l)
  dro : o.do_ = 1 → amC o.c l' = false
theorem left_offer {N : Nat} {o : Sp} {l : List Cd} (h : Ris N l) (hd : o.do_ = 0) : Left N o l ((offS l o.c).take N) (offB N l o.c) :=
  ⟨h.offer o.c, fun _ => ⟨offB_found h o.c, len_grow h o.c, fun hb => offB_no h o.c hb⟩, fun h1 => by omega⟩
theorem left_drop {N : Nat} {o : Sp} {l : List Cd} (h : Ris N l) (hd : o.do_ = 1) : Left N o l (dropK o.c.key l) false :=
  ⟨h.drop _, fun h1 => by omega, fun _ => by
    unfold amC
    rw [List.any_eq_false]
    intro d hm hq
    have := (eqC_iff d o.c).1 hq
    exact (dropK_mem.1 hm).2 (by rw [this])⟩
theorem left_take {N : Nat} {o : Sp} {l : List Cd} (h : Ris N l) (hd : o.do_ = 2) : Left N o l l.tail false :=
  ⟨by cases l with
    | nil => exact h
    | cons a l => exact h.tail, fun h1 => by omega, fun h1 => by omega⟩
theorem left_clear {N : Nat} {o : Sp} {l : List Cd} (hd : o.do_ = 4) : Left N o l [] false :=
  ⟨Ris.nil N, fun h1 => by omega, fun h1 => by omega⟩
theorem left_else {N : Nat} {o : Sp} {l : List Cd} (h : Ris N l) (h0 : o.do_ ≠ 0) (h1 : o.do_ ≠ 1) : Left N o l l false :=
  ⟨h, fun h => absurd h h0, fun h => absurd h h1⟩
/-- behind the switch -/
def Swi (w : World) (B p N s : Nat) (o : Sp) (l : List Cd) (vu : Value) (kept : Value) (V : World) : Prop :=
  ∃ (b : Bool) (vr' : Value) (l' : List Cd), kept = .bool b ∧ Ux w B p N s o vr' l' vu l V ∧ Left N o l l' b
set_option maxRecDepth 100000 in
set_option maxHeartbeats 8000000 in
theorem poolRises_walk (w : World) (n : Int) (hlo : -9223372036854775808 ≤ n) (hhi : n ≤ 9223372036854775807) (v1 : Value) (S : List Sp) (hr : RdC w 4 v1 S.length (S.flatMap spC)) (hby : S.length * 40 ≤ 140737488351232) (hok : ∀ o ∈ S, True) :
    Calls Try.prog 13 #[.int .i64 n, v1] w fun e w' => e = .returned (.bool true) ∧ Below w.heap.size w w' := by
  have HR := Lib.hid hr
  obtain ⟨-, a1, c1, rfl, -⟩ := hr
  clear hlo hhi hok
  go_enter Try.func13, Try.ntmps13
  go_wp2_with fail
  refine (wakes14_any _).mono ?_
  rintro e w1 ⟨rfl, hb1⟩
  have HB1 := Lib.hid hb1
  clear hb1
  by_cases hbad : n < 1 ∨ 16 < n
  · go_wp2_with fail
    refine (newPool_bad w1 n hbad).mono ?_
    rintro e w' ⟨rfl, rfl⟩
    clear hbad
    go_wp2
    go_ret
    exact ⟨rfl, HB1.out⟩
  · obtain ⟨N, rfl⟩ : ∃ N : Nat, n = N := ⟨n.toNat, by omega⟩
    have hN1 : 1 ≤ N := by omega
    have hN2 : N ≤ 16 := by omega
    clear hbad
    go_wp2_with fail
    refine (newPool_any w1 N hN1 hN2).mono ?_
    rintro e w2 ⟨p, rfl, hp, hb⟩
    have HK2 : Hid (Pw w w1.heap.size p N (.slice none 0 0) [] w2) := ⟨hp, HB1.out.trans (hb.mono HB1.out.size), HB1.out.size⟩
    clear hp hb
    go_wp2_with fail
    go_loopw [29] (fun i wr => ∃ (k : Nat) (vr : Value) (l : List Cd), i = .int .i64 k ∧ k ≤ S.length ∧ Hid (Pw w w1.heap.size p N vr l wr) ∧ Hid (Ris N l)) (fun i _ => S.length - (intOf i).toNat)
    case atStart => exact ⟨0, _, [], rfl, by omega, HK2.out, Ris.nil N⟩
    case round =>
      obtain ⟨k, vr, l, rfl, hk, HP, HRI⟩ := hrel
      obtain ⟨wo, rfl⟩ : ∃ x, x = wr := ⟨_, rfl⟩
      clear HK2
      by_cases hlt : k < S.length
      · obtain ⟨g, off, rfl, d0, d1, d2, d3⟩ := sp_at (HR.out.below HP.out.bel) k hlt
        obtain ⟨o, ho⟩ : ∃ o, S[k] = o := ⟨_, rfl⟩
        rw [ho] at d0 d1 d2 d3
        have hb0 : (0 : Int) ≤ (k : Int) := by omega
        have hb1 : (k : Int) < (S.length : Int) := by omega
        have hpo := HP.out.a.lt
        clear ho
        go_wp2_with fail
        obtain ⟨W4, hW4⟩ : ∃ W, wo.alloc (.cells #[.int .i64 o.who, .int .i64 o.do_, .string o.c.key, .int .u64 o.c.rank] 87) = W := ⟨_, rfl⟩
        have hbx : W4.heap[wo.heap.size]? = some (.cells #[.int .i64 o.who, .int .i64 o.do_, .string o.c.key, .int .u64 o.c.rank] 87 (0, 0)) := by rw [← hW4]; exact alloc_at _ _
        have HP4 : Hid (Pw w w1.heap.size p N vr l W4) := by rw [← hW4]; exact HP.out.quiet (Fr.alloc _ _ _)
        have HNB : Hid (∀ g, vr.ownBlock = some g → g < wo.heap.size) := fun g hg => (own_blk HP.out.a.row hg).2.1
        obtain ⟨s, hs⟩ : ∃ s, wo.heap.size = s := ⟨_, rfl⟩
        rw [hW4]
        rw [hs] at hbx hpo HNB ⊢
        clear hW4 hs d0 d1 d2 d3
        refine (candidates_any W4 _ p N vr l HP4.out.a).mono ?_
        rintro e w5 ⟨vu, rfl, hru, hbu⟩
        obtain ⟨ua, uc, rfl⟩ := owns_sliceN hru
        have HX5 : Hid (Ux w w1.heap.size p N s o vr l (.slice ua l.length uc) l w5) := by
          refine ⟨⟨HP4.out.quiet ⟨hbu.os, hbu.tape, hbu.output, hbu.size, fun k hk _ => hbu.block k hk⟩, ?_, fun g hg => ⟨?_, fun e => ?_⟩⟩, (hbu.block _ (Array.getElem?_eq_some_iff.1 hbx).1).trans hbx, by omega, fun g hg => by have := HNB.out g hg; omega⟩
          · obtain ⟨z1, z2 | ⟨g, cap, cur, ze, zb, zr⟩⟩ := hru
            · exact ⟨z1, .inl z2⟩
            · exact ⟨z1, .inr ⟨g, cap, cur, ze, Nat.le_trans HP4.out.bel.size zb, zr⟩⟩
          · have h5 := (own_blk hru hg).1
            have h6 := HP4.out.a.lt
            omega
          · have h5 := (own_blk hru hg).1
            have h6 := (own_blk HP4.out.a.row e).2.1
            omega
        obtain ⟨x0, x1, x2, x3, hxs⟩ := HX5.out.cells
        clear hru hbu hbx HP HP4 HNB
        obtain ⟨dd, hdd⟩ : ∃ d, o.do_ = d := ⟨_, rfl⟩
        rw [hdd] at x1
        have HD := Lib.hid hdd
        clear hdd
        go_upto_block 2 with (fail)
        go_cut [10] from 37 to 57 (fun kept wc => Hid (Swi w w1.heap.size p N s o l (.slice ua l.length uc) kept wc))
        case first =>
          have HBS := Lib.hid (Nat.le_trans HX5.out.un.k.a.bp (Nat.le_of_lt HX5.out.un.k.a.lt))
          by_cases h0 : dd = 0
          · subst h0
            go_wp2_with fail
            refine (offer_any w5 _ p N vr l o.c HX5.out.un.k.a HRI.out.le HBS.out).mono ?_
            intro e w6 hq
            obtain ⟨vr6, rfl, hp6, ha6, hf6⟩ := hq
            have HS : Hid (Swi w w1.heap.size p N s o l (.slice ua l.length uc) (.bool (offB N l o.c)) w6) := ⟨_, vr6, _, rfl, HX5.out.turn hp6 hf6 ha6, left_offer HRI.out HD.out⟩
            clear hp6 ha6 hf6
            go_wp2_with fail
            go_meet
            case rel => exact HS.out
          · have g0 : (dd == 0) = false := by rw [beq_eq_false_iff_ne]; exact h0
            by_cases h1 : dd = 1
            · subst h1
              clear g0 h0
              go_wp2_with fail
              refine (drop_any w5 _ p N vr l o.c.key HX5.out.un.k.a).mono ?_
              rintro e w6 ⟨vr6, rfl, hp6, hv6, hf6⟩
              have HS : Hid (Swi w w1.heap.size p N s o l (.slice ua l.length uc) (.bool false) w6) := ⟨_, vr6, _, rfl, HX5.out.turn hp6 hf6 (fun g hg => .inl (by rw [← hv6]; exact hg)), left_drop HRI.out HD.out⟩
              clear hp6 hv6 hf6
              go_wp2_with fail
              go_meet
              case rel => exact HS.out
            · have g1 : (dd == 1) = false := by rw [beq_eq_false_iff_ne]; exact h1
              by_cases h2 : dd = 2
              · subst h2
                clear g0 h0 g1 h1
                go_wp2_with fail
                refine (take_any w5 _ p N vr l HX5.out.un.k.a).mono ?_
                intro e w6 hq
                have hq2 : ∃ (v : Value) (_ : Value), e = .returned v ∧ Hid (Swi w w1.heap.size p N s o l (.slice ua l.length uc) (.bool false) w6) := by
                  have hl := left_take (o := o) HRI.out HD.out
                  cases l with
                  | nil =>
                    obtain ⟨he, hp6, hf6⟩ := hq
                    exact ⟨_, vr, he, ⟨_, vr, _, rfl, HX5.out.turn hp6 hf6 (fun g hg => .inl hg), hl⟩⟩
                  | cons c l =>
                    obtain ⟨vr6, he, hp6, hv6, hf6⟩ := hq
                    exact ⟨_, vr6, he, ⟨_, vr6, _, rfl, HX5.out.turn hp6 hf6 (fun g hg => .inl (by rw [← hv6]; exact hg)), hl⟩⟩
                obtain ⟨v6, vr6, rfl, HS⟩ := hq2
                clear hq
                go_wp2_with fail
                go_meet
                case rel => exact HS.out
              · have g2 : (dd == 2) = false := by rw [beq_eq_false_iff_ne]; exact h2
                by_cases h4 : dd = 4
                · subst h4
                  clear g0 h0 g1 h1 g2 h2
                  go_wp2_with fail
                  refine (clear_any w5 _ p N vr l HX5.out.un.k.a).mono ?_
                  rintro e w6 ⟨⟨v, rfl⟩, hp6, hf6⟩
                  have HS : Hid (Swi w w1.heap.size p N s o l (.slice ua l.length uc) (.bool false) w6) := ⟨_, _, _, rfl, HX5.out.turn hp6 (hf6.mono (fun _ h _ => .inl h)) (fun g hg => by cases hg), left_clear HD.out⟩
                  clear hp6 hf6
                  go_wp2_with fail
                  go_meet
                  case rel => exact HS.out
                · have g4 : (dd == 4) = false := by rw [beq_eq_false_iff_ne]; exact h4
                  have HS : Hid (Swi w w1.heap.size p N s o l (.slice ua l.length uc) (.bool false) w5) := ⟨_, vr, _, rfl, HX5.out, left_else HRI.out (by rw [HD.out]; exact h0) (by rw [HD.out]; exact h1)⟩
                  clear h0 h1 h2 h4
                  go_wp2_with fail
                  go_meet
                  case rel => exact HS.out
        case rest =>
        obtain ⟨b, vr6, l6, rfl, hx6, hl6⟩ := hcut.out
        clear hcut
        have HX6 := Lib.hid hx6
        have HL6 := Lib.hid hl6
        obtain ⟨w6, rfl⟩ : ∃ x, x = wc := ⟨_, rfl⟩
        rw [← HD.out] at *
        clear hx6 hl6 x0 x1 x2 x3 HX5 HRI HD
        go_wp2_with fail
        refine (candidates_any w6 _ p N vr6 l6 HX6.out.un.k.a).mono ?_
        rintro e w7 ⟨vk, rfl, hrk, hbk⟩
        obtain ⟨ka, kc, rfl⟩ := owns_sliceN hrk
        have HX7 := Lib.hid (HX6.out.quiet ⟨hbk.os, hbk.tape, hbk.output, hbk.size, fun k hk _ => hbk.block k hk⟩)
        have HK7 := Lib.hid (RdC.of_owns hrk)
        have g6 : decide (N < l6.length) = false := by rw [decide_eq_false_iff_not]; have := HL6.out.ris.le; omega
        obtain ⟨x0, x1, x2, x3, hxs⟩ := HX7.out.cells
        clear hrk hbk HX6
        go_wp2_with fail
        go_loopw [66, 12] (fun i fd wr => ∃ m : Nat, i = .int .i64 m ∧ m ≤ l6.length ∧ fd = .bool (amC o.c (l6.take m)) ∧ Hid (Fr (fun _ => False) w7 wr)) (fun i _ _ => l6.length - (intOf i).toNat)
        case atStart => exact ⟨0, rfl, by omega, rfl, Fr.refl _ _⟩
        case round =>
          obtain ⟨m, rfl, hm, rfl, HF⟩ := hrel
          obtain ⟨wp, rfl⟩ : ∃ x, x = wr := ⟨_, rfl⟩
          have HXp := Lib.hid (HX7.out.quiet HF.out)
          have hll6 := HX7.out.un.k.a.len
          by_cases hlt2 : m < l6.length
          · have hrd := HK7.out.fr HF.out (fun _ _ h => h)
            have HRD := Lib.hid hrd
            obtain ⟨g2, o2, rfl, f0, f1⟩ := cd_at hrd m hlt2
            obtain ⟨x, hx⟩ : ∃ x, l6[m] = x := ⟨_, rfl⟩
            rw [hx] at f0 f1
            have HXX := Lib.hid hx
            have hm0 : (0 : Int) ≤ (m : Int) := by omega
            have hm1 : (m : Int) < (l6.length : Int) := by omega
            clear hx hrd
            go_wp2_with fail
            obtain ⟨W8, hW8⟩ : ∃ W, wp.alloc (.cells #[.string x.key, .int .u64 x.rank] 73) = W := ⟨_, rfl⟩
            have hbx : W8.heap[wp.heap.size]? = some (.cells #[.string x.key, .int .u64 x.rank] 73 (0, 0)) := by rw [← hW8]; exact alloc_at _ _
            have HBX := Lib.hid hbx
            have HF8 : Hid (Fr (fun _ => False) w7 W8) := by rw [← hW8]; exact HF.out.thenAlloc _
            rw [hW8]
            clear hW8 hbx f0 f1
            go_cut [82] from 71 to 82 (fun t wc => t = .bool false ∧ Hid (Fr (fun _ => False) W8 wc))
            case first =>
              have b0 : W8.cell? ⟨wp.heap.size, 0, none⟩ = some (.string x.key) := cell_of_blk HBX.out 0
              have b1 : W8.cell? ⟨wp.heap.size, 1, none⟩ = some (.int .u64 x.rank) := cell_of_blk HBX.out 1
              by_cases hz : m = 0
              · have gz : decide (0 < m) = false := by rw [decide_eq_false_iff_not]; omega
                have gz2 : decide ((0 : Int) < (m : Int)) = false := by rw [decide_eq_false_iff_not]; omega
                clear hz
                go_quiet (fail)
                go_wp2_with fail
                go_meet
                case rel => exact ⟨rfl, Fr.drewN _ _ _⟩
              · obtain ⟨q, rfl⟩ : ∃ q, m = q + 1 := ⟨m - 1, by omega⟩
                obtain ⟨g3, o3, he3, y0, y1⟩ := cd_at (HK7.out.fr HF8.out (fun _ _ h => h)) q (by omega)
                cases he3
                have hup := List.pairwise_iff_getElem.1 HL6.out.ris.up q (q + 1) (by omega) hlt2 (by omega)
                rw [HXX.out] at hup
                obtain ⟨y, hy⟩ : ∃ y, l6[q] = y := ⟨_, rfl⟩
                rw [hy] at y0 y1 hup
                have hs := fun W => sooner14_any y x W
                rw [decide_eq_true hup] at hs
                have HS := Lib.hid hs
                have gz : decide (0 < q + 1) = true := by rw [decide_eq_true_eq]; omega
                have gz2 : decide ((0 : Int) < ((q + 1 : Nat) : Int)) = true := by rw [decide_eq_true_eq]; omega
                have hwr : IntKind.i64.wrap (q : Int) = (q : Int) := IntWalk.i64_in _ (by omega)
                have hq0 : (0 : Int) ≤ (q : Int) := by omega
                have hq1 : (q : Int) < (l6.length : Int) := by omega
                have hw0 := HBX.out
                clear hs hup hy hz hw0
                refine wp_region_still_tail 9 (by kernel_rfl) (by kernel_rfl) ?_
                simp only [List.take_succ_cons, List.take_zero, List.drop_succ_cons, List.drop_zero]
                iterate 9 still_step
                refine wpStill_nil ?_
                go_wp2_with fail
                refine (HS.out _).mono ?_
                rintro e w9 ⟨rfl, hf9⟩
                have HF9 : Hid (Fr (fun _ => False) W8 w9) := (Fr.drew (fun _ => False) W8).wide hf9 (fun _ h => h.elim)
                clear hf9
                go_wp2_with fail
                go_meet
                case rel => exact ⟨rfl, HF9.out⟩
            case rest =>
            obtain ⟨rfl, HF10⟩ := hcut
            obtain ⟨w10, rfl⟩ : ∃ x, x = wc := ⟨_, rfl⟩
            have HF7 : Hid (Fr (fun _ => False) w7 w10) := HF8.out.wide HF10.out (fun _ h => h.elim)
            go_wp2_with fail
            go_loopw [84] (fun j wr => ∃ t : Nat, j = .int .i64 t ∧ t ≤ m ∧ Hid (Fr (fun _ => False) w10 wr)) (fun j _ => m - (intOf j).toNat)
            case atStart => exact ⟨0, rfl, by omega, Fr.refl _ _⟩
            case round =>
              obtain ⟨t, rfl, ht, HG⟩ := hrel
              obtain ⟨wq, rfl⟩ : ∃ x, x = wr := ⟨_, rfl⟩
              have HFq : Hid (Fr (fun _ => False) w7 wq) := HF7.out.wide HG.out (fun _ h => h.elim)
              have hbq := (HG.out.block _ (Nat.lt_of_lt_of_le (Array.getElem?_eq_some_iff.1 HBX.out).1 HF10.out.size) (fun h => h)).trans ((HF10.out.block _ (Array.getElem?_eq_some_iff.1 HBX.out).1 (fun h => h)).trans HBX.out)
              have b0 : wq.cell? ⟨wp.heap.size, 0, none⟩ = some (.string x.key) := cell_of_blk hbq 0
              have b1 : wq.cell? ⟨wp.heap.size, 1, none⟩ = some (.int .u64 x.rank) := cell_of_blk hbq 1
              clear hbq
              by_cases hlt3 : t < m
              · obtain ⟨g3, o3, he3, y0, y1⟩ := cd_at (HK7.out.fr HFq.out (fun _ _ h => h)) t (by omega)
                cases he3
                have hap := List.pairwise_iff_getElem.1 HL6.out.ris.ap t m (by omega) hlt2 hlt3
                rw [HXX.out] at hap
                obtain ⟨y, hy⟩ : ∃ y, l6[t] = y := ⟨_, rfl⟩
                rw [hy] at y0 y1 hap
                have hqb : (y.key.toList == x.key.toList) = false := by rw [str_beq]; simpa using hap
                have hqt : ¬ y.key.toList = x.key.toList := beq_eq_false_iff_ne.1 hqb
                have ht0 : (0 : Int) ≤ (t : Int) := by omega
                have ht1 : (t : Int) < (l6.length : Int) := by omega
                clear hap hy
                go_wp2_with fail
                go_quiet (fail)
                have HGN := Lib.hid (HG.out.thenDrewN nq)
                go_wp2_with fail
                go_roundw
                case rel => exact ⟨t + 1, by go_num, by omega, HGN.out⟩
                case measure => simp [intOf]; omega
              · obtain rfl : t = m := by omega
                obtain ⟨x0, x1, x2, x3, hxs⟩ := (HX7.out.quiet HFq.out).cells
                have hamt := amC_take o.c l6 t hlt2
                rw [HXX.out] at hamt
                obtain ⟨am, ham⟩ : ∃ am, amC o.c (l6.take t) = am := ⟨_, rfl⟩
                rw [ham] at hamt ⊢
                obtain ⟨q, hq, hqc⟩ : ∃ q, eqC x o.c = q ∧ ((x.key.toList = o.c.key.toList ∧ (x.rank : Int) = (o.c.rank : Int) ∧ q = true) ∨ (x.key.toList = o.c.key.toList ∧ ¬ (x.rank : Int) = (o.c.rank : Int) ∧ q = false) ∨ (¬ x.key.toList = o.c.key.toList ∧ q = false)) := by
                  refine ⟨_, rfl, ?_⟩
                  unfold eqC
                  by_cases h1 : x.key.toList = o.c.key.toList
                  · by_cases h2 : x.rank = o.c.rank
                    · exact .inl ⟨h1, by omega, by simp [h1, h2]⟩
                    · exact .inr (.inl ⟨h1, by omega, by simp [h2]⟩)
                  · exact .inr (.inr ⟨h1, by simp [h1]⟩)
                have HA2 : Hid (amC o.c (l6.take (t + 1)) = (am || q)) := by show _ = _; rw [hamt, hq]
                clear hq hamt ham
                cases am
                · rcases hqc with ⟨k1, k2, rfl⟩ | ⟨k1, k2, rfl⟩ | ⟨k1, rfl⟩
                  all_goals
                    go_wp2_with fail
                    go_roundw
                    case rel => exact ⟨t + 1, by go_num, by omega, by rw [HA2.out]; rfl, HFq.out⟩
                    case measure => simp [intOf]; omega
                · clear hqc
                  go_wp2_with fail
                  go_roundw
                  case rel => exact ⟨t + 1, by go_num, by omega, by rw [HA2.out]; rfl, HFq.out⟩
                  case measure => simp [intOf]; omega
          · obtain rfl : m = l6.length := by omega
            rw [List.take_length]
            obtain ⟨x0, x1, x2, x3, hxs⟩ := HXp.out.cells
            have HFIN : Hid (∀ W, Fr (fun _ => False) wp W → Pw w w1.heap.size p N vr6 l6 W ∧ Ris N l6) := fun W hf => ⟨HXp.out.un.k.quiet hf, HL6.out.ris⟩
            obtain ⟨am, ham⟩ : ∃ am, amC o.c l6 = am := ⟨_, rfl⟩
            rw [ham]
            obtain ⟨dd, hdd⟩ : ∃ d, o.do_ = d := ⟨_, rfl⟩
            rw [hdd] at x1
            have HAM := Lib.hid ham
            have HDD := Lib.hid hdd
            clear ham hdd
            by_cases h0 : dd = 0
            · obtain ⟨k1, k2, k3⟩ := HL6.out.off (HDD.out.trans h0)
              rw [HAM.out] at k1
              subst k1
              subst h0
              have gl : decide (l6.length < l.length) = false := by rw [decide_eq_false_iff_not]; omega
              cases b
              · have hsame := sameC_any wp (.slice ka l6.length kc) (.slice ua l.length uc) l6 l (HK7.out.fr HF.out (fun _ _ h => h)) (RdC.of_owns HXp.out.un.u)
                rw [decide_eq_true (k3 rfl)] at hsame
                have HSM := Lib.hid hsame
                clear k2 k3 hsame
                go_wp2_with fail
                refine HSM.out.mono ?_
                rintro e w8 ⟨rfl, hf8⟩
                obtain ⟨q1, q2⟩ := HFIN.out w8 hf8
                have HQ1 := Lib.hid q1
                have HQ2 := Lib.hid q2
                obtain ⟨x0, x1, x2, x3, hxs⟩ := (HXp.out.quiet hf8).cells
                rw [HDD.out] at x1
                clear q1 q2 hf8
                go_wp2_with fail
                go_roundw
                case rel => exact ⟨k + 1, vr6, l6, by go_num, by omega, HQ1.out, HQ2.out⟩
                case measure => simp [intOf]; omega
              · clear k2 k3
                obtain ⟨q1, q2⟩ := HFIN.out wp (Fr.refl _ _)
                have HQ1 := Lib.hid q1
                have HQ2 := Lib.hid q2
                clear q1 q2
                go_wp2_with fail
                go_roundw
                case rel => exact ⟨k + 1, vr6, l6, by go_num, by omega, HQ1.out, HQ2.out⟩
                case measure => simp [intOf]; omega
            · have g0 : (dd == 0) = false := by rw [beq_eq_false_iff_ne]; exact h0
              obtain ⟨q1, q2⟩ := HFIN.out wp (Fr.refl _ _)
              have HQ1 := Lib.hid q1
              have HQ2 := Lib.hid q2
              clear q1 q2
              by_cases h1 : dd = 1
              · have k1 := HL6.out.dro (HDD.out.trans h1)
                rw [HAM.out] at k1
                subst k1
                subst h1
                clear h0
                go_wp2_with fail
                go_roundw
                case rel => exact ⟨k + 1, vr6, l6, by go_num, by omega, HQ1.out, HQ2.out⟩
                case measure => simp [intOf]; omega
              · have g1 : (dd == 1) = false := by rw [beq_eq_false_iff_ne]; exact h1
                clear h0 h1
                go_wp2_with fail
                go_roundw
                case rel => exact ⟨k + 1, vr6, l6, by go_num, by omega, HQ1.out, HQ2.out⟩
                case measure => simp [intOf]; omega
      · obtain rfl : k = S.length := by omega
        go_wp2_with fail
        go_ret
        exact ⟨rfl, HP.out.bel⟩
set_option maxRecDepth 100000 in
theorem poolRises_lifted (os : Os) (started : os.Started) (H : Type) (enc : TypeId × Value → H) :
    ReturnsInHanded {} Try.checked os 13 .any (Rows.poolRisesSpec.pre6 enc Try.prog Try.f13 Rows.poolRisesRow.domain false) (Rows.poolRisesSpec.post enc Try.prog Try.f13 false true false false) := by
  refine returnsInHanded_of_change_sized (C := Try.checked) own started (by kernel_rfl) Try.func13
    (ChangeSpec.witness6 (enc := enc) (C := Try.checked) false ⟨#[], #[.int .i64 0, .slice none 0 0], []⟩ 8 (by kernel_rfl) (by kernel_rfl) (by kernel_rfl) (by kernel_rfl)) ?_
  intro W base args ds gs before hval0 hW hcnd hsz0 _
  have hval : ∀ (j : Nat) t v, Try.f13.params[j]? = some t → args[j]? = some v → Value.okWide Try.prog W .any base t v := hval0
  have hW' := hW
  obtain ⟨p, q, hA0, hV, rfl, hfz, hnd⟩ := hW
  have hA : DataW.TrodAll enc Try.prog W 0 (fun _ => true) true Try.f13.params.toList args.toList ds p := hA0
  rw [Try.params13] at hA hval
  obtain ⟨v0, vs0, d0, ds0, p0, q0, hargs, rfl, rfl, h0, r0⟩ := trodAll_cons hA
  obtain ⟨v1, vs1, d1, ds1, p1, q1, rfl, rfl, rfl, h1, r1⟩ := trodAll_cons r0
  obtain ⟨rfl, rfl, rfl⟩ := trodAll_nil r1
  obtain rfl : args = #[v0, v1] := by cases args; simp_all
  obtain ⟨rfl, rfl⟩ := trodVars_none hV
  have hsz : (DataW.weightsEach Try.prog [3, 82] [d0, d1]).all (fun x => decide (x ≤ reachBytes)) = true := by
    have h := hsz0
    simp only [List.append_nil] at h
    have e : (Try.f13.params.toList ++ DataSpec.varTypes Try.checked.prog Rows.poolRisesSpec.plain) = [3, 82] := by kernel_rfl
    rw [e] at h; exact h
  clear hsz0
  obtain ⟨hw0, hsz0⟩ := weights_cons hsz
  obtain ⟨x0, rfl, lo0, hi0⟩ := open_i64 Try.underlying3 (hval 0 3 v0 rfl rfl) h0
  obtain ⟨hw1, hsz1⟩ := weights_cons hsz0
  obtain ⟨fu1, hf1⟩ := trod_one h1 (okWide_slice Try.underlying82 (hval 1 82 v1 rfl rfl))
  obtain ⟨l1, hr1, hby1, hok1⟩ := open_script14 hf1 hw1
  clear hA0 hval0
  refine (poolRises_walk W x0 lo0 hi0 v1 l1 hr1 hby1 hok1).mono fun e W' ⟨he, bel⟩ => ?_
  subst he
  exact ⟨_, rfl, law_post laidOut Try.underlying4 (by kernel_rfl) rfl (by kernel_rfl) hW' rfl bel⟩

theorem poolRises_holds : Rows.PoolRisesSaid :=
  OpenClaim.holds_of_wide 13 Try.f13 rfl rfl rfl rfl rfl rfl rfl ⟨rfl, rfl, rfl, rfl, rfl⟩ rfl rfl rfl rfl rfl (by kernel_rfl) Try.func13 (by kernel_rfl)
    (of_decide_eq_true (by kernel_rfl)) (by unfold Func.isWrapper; rw [if_neg (of_decide_eq_false (by kernel_rfl))]; exact ⟨rfl, rfl⟩)
    (fun os started H enc _ => poolRises_lifted os started H enc)
end Go.Proofs.Ytpcjogmikgfgdaa
