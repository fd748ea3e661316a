/- PoolSoonest: those that come soonest are kept, and taken in their order. No condition. -/
import Derived.Test.YtpcjogmikgfgdaaSoonP
import Derived.Test.YtpcjogmikgfgdaaOpenC
namespace Go.Proofs.Ytpcjogmikgfgdaa
open Go.ChangeShapes Go.WideShapes Go.ChangeAt Go.RowKit
theorem hasK_iff (l : List Cd) (k : ByteArray) : hasK l k = true ↔ ∃ c ∈ l, c.key = k := by
  unfold hasK
  rw [List.any_eq_true]
  constructor
  · rintro ⟨c, hc, h⟩; rw [str_beq] at h; exact ⟨c, hc, by simpa using h⟩
  · rintro ⟨c, hc, h⟩; exact ⟨c, hc, by rw [str_beq]; simpa using h⟩
def KeysApart (l : List Cd) : Prop := l.Pairwise fun a b => a.key ≠ b.key
theorem unlk_apart (acc l : List Cd) (h : KeysApart acc) : KeysApart (unlk acc l) := by
  induction l generalizing acc with
  | nil => exact h
  | cons c l ih =>
    refine ih _ ?_
    by_cases hk : hasK acc c.key = true
    · rw [if_pos hk]; exact h
    · rw [if_neg hk]
      refine List.pairwise_append.2 ⟨h, List.pairwise_singleton _ _, fun a ha b hb => ?_⟩
      rw [List.mem_singleton.1 hb]
      exact fun e => hk ((hasK_iff _ _).2 ⟨a, ha, e⟩)
theorem KeysApart.nodup {l : List Cd} (h : KeysApart l) : l.Nodup := h.imp (fun {a b} h e => h (by rw [e]))
theorem KeysApart.step {l : List Cd} (h : KeysApart l) (k : Nat) (hk : k < l.length) : ∀ a ∈ l.take k, a.key ≠ l[k].key := by
  have h1 := h.sublist (List.take_sublist (k + 1) l)
  rw [List.take_succ_eq_append_getElem hk] at h1
  exact fun a ha => (List.pairwise_append.1 h1).2.2 a ha _ (List.mem_singleton.2 rfl)
/-- the pool, and a row of candidates apart from it -/
structure Un (w : World) (B p N : Nat) (vr : Value) (l : List Cd) (vu : Value) (U : List Cd) (V : World) : Prop where
  k : Pw w B p N vr l V
  u : V.ownsRow w.heap.size 73 2 vu U.length (clC U)
  ap : ∀ g, vu.ownBlock = some g → g ≠ p ∧ vr.ownBlock ≠ some g
section
variable {w V V' : World} {B p N : Nat} {vr vr' vu : Value} {l l' U : List Cd}
theorem Un.turn (h : Un w B p N vr l vu U V) (hp : PoolAt V' B p N vr' l') (hf : Fr (fun i => i = p ∨ vr.ownBlock = some i) V V') (ha : ∀ g, vr'.ownBlock = some g → vr.ownBlock = some g ∨ V.heap.size ≤ g) : Un w B p N vr' l' vu U V' := by
  refine ⟨h.k.turn hp hf, owns_fr h.u hf (fun g hg e => ?_), fun g hg => ⟨(h.ap g hg).1, fun e => ?_⟩⟩
  · rcases e with e | e
    · exact (h.ap g hg).1 e
    · exact (h.ap g hg).2 e
  · rcases ha g e with e | e
    · exact (h.ap g hg).2 e
    · have := (own_blk h.u hg).2.1; omega
theorem Un.quiet (h : Un w B p N vr l vu U V) (hf : Fr (fun _ => False) V V') : Un w B p N vr l vu U V' :=
  h.turn (h.k.a.quiet hf) (hf.mono (fun _ h => h.elim)) (fun g hg => .inl hg)
theorem Un.offer {c : Cd} {e : Ending} (h : Un w B p N vr l vu U V) (hq : OfferPost V B p N vr l c e V') : ∃ vr' b, e = .returned (.bool b) ∧ Hid (Un w B p N vr' ((offS l c).take N) vu U V') := by
  obtain ⟨vr', he, hp, ha, hf⟩ := hq
  exact ⟨vr', _, he, h.turn hp hf ha⟩
end
def cntC (x : Cd) (l : List Cd) : Nat := l.countP fun d => decide (ltC d x)
def amC (x : Cd) (l : List Cd) : Bool := l.any fun d => eqC d x
theorem cntC_take (x : Cd) (l : List Cd) (m : Nat) (h : m < l.length) : cntC x (l.take (m + 1)) = cntC x (l.take m) + (if ltC l[m] x then 1 else 0) := by
  unfold cntC
  rw [List.take_succ_eq_append_getElem h, List.countP_append]
  simp [List.countP_cons]
theorem cntC_le (x : Cd) (l : List Cd) (m : Nat) : cntC x (l.take m) ≤ m := by
  unfold cntC
  exact Nat.le_trans (List.countP_le_length) (by rw [List.length_take]; omega)
theorem amC_take (x : Cd) (l : List Cd) (m : Nat) (h : m < l.length) : amC x (l.take (m + 1)) = (amC x (l.take m) || eqC l[m] x) := by
  unfold amC
  rw [List.take_succ_eq_append_getElem h, List.any_append]
  simp
theorem amC_mem {x : Cd} {l : List Cd} (h : x ∈ l) : amC x l = true := List.any_eq_true.2 ⟨x, h, (eqC_iff x x).2 rfl⟩
set_option maxRecDepth 100000 in
set_option maxHeartbeats 8000000 in
theorem poolSoonest_walk (w : World) (n : Int) (hlo : -9223372036854775808 ≤ n) (hhi : n ≤ 9223372036854775807) (v1 : Value) (l : List Cd) (hr : RdC w 2 v1 l.length (clC l)) (hby : l.length * 24 ≤ 140737488351232) (hok : ∀ o ∈ l, o.key.size ≤ maxLen) :
    Calls Try.prog 9 #[.int .i64 n, v1] w fun e w' => e = .returned (.bool true) ∧ Below w.heap.size w w' := by
  have HR := Lib.hid hr
  obtain ⟨-, a1, c1, rfl, -⟩ := hr
  clear hlo hhi hok
  go_enter Try.func9, Try.ntmps9
  go_wp2_with fail
  refine (wakes14_any _).mono ?_
  rintro e w1 ⟨rfl, hb1⟩
  have HB1 := Lib.hid hb1
  clear hb1
  by_cases hbad : n < 1 ∨ 16 < n
  · go_wp2_with fail
    refine (newPool_bad w1 n hbad).mono ?_
    rintro e w' ⟨rfl, rfl⟩
    by_cases h1 : n < 1
    · have g1 : decide (n < 1) = true := decide_eq_true h1
      clear hbad
      go_wp2
      go_ret
      exact ⟨rfl, HB1.out⟩
    · have g1 : decide (n < 1) = false := decide_eq_false h1
      have g2 : decide (16 < n) = true := decide_eq_true (by omega)
      clear hbad
      go_wp2
      go_ret
      exact ⟨rfl, HB1.out⟩
  · obtain ⟨N, rfl⟩ : ∃ N : Nat, n = N := ⟨n.toNat, by omega⟩
    have hN1 : 1 ≤ N := by omega
    have hN2 : N ≤ 16 := by omega
    clear hbad
    go_wp2_with fail
    refine (newPool_any w1 N hN1 hN2).mono ?_
    rintro e w2 ⟨p, rfl, hp, hb⟩
    have HK2 : Hid (Pw w w1.heap.size p N (.slice none 0 0) [] w2) := ⟨hp, HB1.out.trans (hb.mono HB1.out.size), HB1.out.size⟩
    clear hp hb
    go_wp2_with fail
    refine (unlike_any w2 _ l (HR.out.below HK2.out.bel) (by omega)).mono ?_
    rintro e w3 ⟨vu, rfl, hru, hbu⟩
    have HAP : Hid (KeysApart (unlk [] l)) := unlk_apart [] l List.Pairwise.nil
    have HUL := unlk_len [] l
    obtain ⟨U, hU⟩ : ∃ U, unlk [] l = U := ⟨_, rfl⟩
    rw [hU] at hru HAP HUL
    rw [List.length_nil, Nat.zero_add] at HUL
    clear hU
    obtain ⟨ua, uc, rfl⟩ := owns_sliceN hru
    have HU3 : Hid (Un w w1.heap.size p N (.slice none 0 0) [] (.slice ua U.length uc) U w3) := by
      refine ⟨HK2.out.quiet ⟨hbu.os, hbu.tape, hbu.output, hbu.size, fun k hk _ => hbu.block k hk⟩, ?_, fun g hg => ⟨?_, fun e => by cases e⟩⟩
      · obtain ⟨z1, z2 | ⟨g, cap, cur, ze, zb, zr⟩⟩ := hru
        · exact ⟨z1, .inl z2⟩
        · exact ⟨z1, .inr ⟨g, cap, cur, ze, Nat.le_trans HK2.out.bel.size zb, zr⟩⟩
      · have h5 := (own_blk hru hg).1
        have h6 := HK2.out.a.lt
        omega
    clear hru hbu
    go_wp2_with fail
    go_loopw [49] (fun i wr => ∃ (k : Nat) (vr : Value), i = .int .i64 k ∧ k ≤ U.length ∧ Hid (Un w w1.heap.size p N vr ((sortC (U.take k)).take N) (.slice ua U.length uc) U wr)) (fun i _ => U.length - (intOf i).toNat)
    case atStart => exact ⟨0, _, rfl, by omega, by rw [show (sortC (U.take 0)).take N = [] by simp [sortC]]; exact HU3.out⟩
    case round =>
      obtain ⟨k, vr, rfl, hk, HU⟩ := hrel
      obtain ⟨wo, rfl⟩ : ∃ x, x = wr := ⟨_, rfl⟩
      clear HU3
      by_cases hlt : k < U.length
      · obtain ⟨g, off, rfl, d0, d1⟩ := cd_at (RdC.of_owns HU.out.u) k hlt
        have hst := offer_step (A := U.take k) (c := U[k]) (n := N) (by rw [← List.take_succ_eq_append_getElem hlt]; exact HAP.out.nodup.sublist (List.take_sublist _ _)) (HAP.out.step k hlt)
        rw [← List.take_succ_eq_append_getElem hlt] at hst
        obtain ⟨x, hx⟩ : ∃ x, U[k] = x := ⟨_, rfl⟩
        rw [hx] at d0 d1 hst
        have HST := Lib.hid hst
        have hb0 : (0 : Int) ≤ (k : Int) := by omega
        have hb1 : (k : Int) < (U.length : Int) := by omega
        have HUA := Lib.hid (HU.out.quiet (Fr.alloc (fun _ => False) wo (.cells #[.string x.key, .int .u64 x.rank] 73)))
        clear hst hx
        go_wp2_with fail
        refine (offer_any _ _ p N vr _ x HUA.out.k.a (by rw [List.length_take]; omega) (Nat.le_trans HUA.out.k.a.bp (Nat.le_of_lt HUA.out.k.a.lt))).mono ?_
        intro e w4 hq
        obtain ⟨vr4, b4, rfl, HU4⟩ := HUA.out.offer hq
        rw [HST.out] at HU4
        clear hq
        go_wp2_with fail
        go_roundw
        case rel => exact ⟨k + 1, vr4, by go_num, by omega, HU4.out⟩
        case measure => simp [intOf]; omega
      · obtain rfl : k = U.length := by omega
        rw [List.take_length] at HU
        obtain ⟨K, hK⟩ : ∃ K, (sortC U).take N = K := ⟨_, rfl⟩
        rw [hK] at HU
        have HKE := Lib.hid hK
        have hKl : K.length = min N U.length := by rw [← hK, List.length_take, sortC_len]
        clear hK
        go_wp2_with fail
        refine (candidates_any wo _ p N vr K HU.out.k.a).mono ?_
        rintro e w5 ⟨vk, rfl, hrk, hbk⟩
        obtain ⟨ka, kc, rfl⟩ := owns_sliceN hrk
        have HU5 := Lib.hid (HU.out.quiet ⟨hbk.os, hbk.tape, hbk.output, hbk.size, fun k hk _ => hbk.block k hk⟩)
        have HK5 : Hid (Un w w1.heap.size p N vr K (.slice ka K.length kc) K w5) := by
          refine ⟨HU5.out.k, ?_, fun g hg => ⟨?_, fun e => ?_⟩⟩
          · obtain ⟨z1, z2 | ⟨g, cap, cur, ze, zb, zr⟩⟩ := hrk
            · exact ⟨z1, .inl z2⟩
            · exact ⟨z1, .inr ⟨g, cap, cur, ze, Nat.le_trans HU.out.k.bel.size zb, zr⟩⟩
          · have h5 := (own_blk hrk hg).1
            have h6 := HU.out.k.a.lt
            omega
          · have h5 := (own_blk hrk hg).1
            have h6 := (own_blk HU.out.k.a.row e).2.1
            omega
        have hKi : (K.length : Int) = min (N : Int) (U.length : Int) := by omega
        have hmin : ((K.length : Int) != min (N : Int) (U.length : Int)) = false := by rw [hKi]; simp
        have hKU : K.length ≤ U.length := by omega
        have hKN : K.length ≤ N := by omega
        clear hrk hbk hKl hKi
        go_wp2_with fail
        go_loopw [68] (fun i wr => ∃ k : Nat, i = .int .i64 k ∧ k ≤ K.length ∧ Hid (Fr (fun _ => False) w5 wr)) (fun i _ => K.length - (intOf i).toNat)
        case atStart => exact ⟨0, rfl, by omega, Fr.refl _ _⟩
        case round =>
          obtain ⟨k, rfl, hk, HF⟩ := hrel
          obtain ⟨wp, rfl⟩ : ∃ x, x = wr := ⟨_, rfl⟩
          by_cases hlt : k < K.length
          · obtain ⟨g, off, rfl, d0, d1⟩ := cd_at ((RdC.of_owns HK5.out.u).fr HF.out (fun _ _ h => h)) k hlt
            have hks : k < (sortC U).length := by rw [sortC_len]; omega
            have hKk : K[k] = (sortC U)[k] := by
              have h5 : K[k]? = (sortC U)[k]? := by rw [← HKE.out, List.getElem?_take_of_lt (by omega)]
              rw [List.getElem?_eq_getElem hlt, List.getElem?_eq_getElem hks] at h5
              exact Option.some.inj h5
            have hcnt : cntC K[k] U = k := by rw [hKk]; exact before_count HAP.out.nodup k hks
            have hmem : amC K[k] U = true := by rw [hKk]; exact amC_mem ((sortC_perm U).mem_iff.1 (List.getElem_mem hks))
            obtain ⟨x, hx⟩ : ∃ x, K[k] = x := ⟨_, rfl⟩
            rw [hx] at d0 d1 hcnt hmem
            have HCNT := Lib.hid hcnt
            have HMEM := Lib.hid hmem
            have hb0 : (0 : Int) ≤ (k : Int) := by omega
            have hb1 : (k : Int) < (K.length : Int) := by omega
            clear hx hKk hcnt hmem hks
            go_wp2_with fail
            obtain ⟨W6, hW6⟩ : ∃ W, wp.alloc (.cells #[.string x.key, .int .u64 x.rank] 73) = W := ⟨_, rfl⟩
            have hbx : W6.heap[wp.heap.size]? = some (.cells #[.string x.key, .int .u64 x.rank] 73 (0, 0)) := by rw [← hW6]; exact alloc_at _ _
            have HBX := Lib.hid hbx
            have HF6 : Hid (Fr (fun _ => False) w5 W6) := by rw [← hW6]; exact HF.out.thenAlloc _
            rw [hW6]
            clear hW6 hbx d0 d1
            go_loopw [12, 13, 75] (fun cnt am j wr => ∃ m : Nat, j = .int .i64 m ∧ m ≤ U.length ∧ cnt = .int .i64 (cntC x (U.take m)) ∧ am = .bool (amC x (U.take m)) ∧ Hid (Fr (fun _ => False) W6 wr)) (fun _ _ j _ => U.length - (intOf j).toNat)
            case atStart => exact ⟨0, rfl, by omega, rfl, rfl, Fr.refl _ _⟩
            case round =>
              obtain ⟨m, rfl, hm, rfl, rfl, HG⟩ := hrel
              obtain ⟨wq, rfl⟩ : ∃ x, x = wr := ⟨_, rfl⟩
              have hbq := (HG.out.block _ (Array.getElem?_eq_some_iff.1 HBX.out).1 (fun h => h)).trans HBX.out
              have x0 : wq.cell? ⟨wp.heap.size, 0, none⟩ = some (.string x.key) := cell_of_blk hbq 0
              have x1 : wq.cell? ⟨wp.heap.size, 1, none⟩ = some (.int .u64 x.rank) := cell_of_blk hbq 1
              have hxl : wp.heap.size < wq.heap.size := (Array.getElem?_eq_some_iff.1 hbq).1
              clear hbq
              by_cases hlt2 : m < U.length
              · obtain ⟨g2, o2, rfl, f0, f1⟩ := cd_at (((RdC.of_owns HU5.out.u).fr HF6.out (fun _ _ h => h)).fr HG.out (fun _ _ h => h)) m hlt2
                have hc1 := cntC_take x U m hlt2
                have ha1 := amC_take x U m hlt2
                have hcl := cntC_le x U m
                obtain ⟨y, hy⟩ : ∃ y, U[m] = y := ⟨_, rfl⟩
                rw [hy] at f0 f1 hc1 ha1
                obtain ⟨cn, hcn⟩ : ∃ cn, cntC x (U.take m) = cn := ⟨_, rfl⟩
                obtain ⟨am, ham⟩ : ∃ am, amC x (U.take m) = am := ⟨_, rfl⟩
                rw [hcn] at hc1 hcl ⊢
                rw [ham] at ha1 ⊢
                have HC1 := Lib.hid hc1
                have HA1 := Lib.hid ha1
                have hm0 : (0 : Int) ≤ (m : Int) := by omega
                have hm1 : (m : Int) < (U.length : Int) := by omega
                clear hy hc1 ha1 hcn ham
                go_wp2_with fail
                refine (sooner14_any y x _).mono ?_
                rintro e w8 ⟨rfl, hf8⟩
                have hby := alloc_at wq (.cells #[.string y.key, .int .u64 y.rank] 73)
                have hby8 := (hf8.block _ (Array.getElem?_eq_some_iff.1 hby).1 (fun h => h)).trans hby
                have HG8 : Hid (Fr (fun _ => False) W6 w8) := (HG.out.thenAlloc _).wide hf8 (fun _ h => h.elim)
                have hbx8 := (HG8.out.block _ (Array.getElem?_eq_some_iff.1 HBX.out).1 (fun h => h)).trans HBX.out
                have y0 : w8.cell? ⟨wq.heap.size, 0, none⟩ = some (.string y.key) := cell_of_blk hby8 0
                have y1 : w8.cell? ⟨wq.heap.size, 1, none⟩ = some (.int .u64 y.rank) := cell_of_blk hby8 1
                have x08 : w8.cell? ⟨wp.heap.size, 0, none⟩ = some (.string x.key) := cell_of_blk hbx8 0
                have x18 : w8.cell? ⟨wp.heap.size, 1, none⟩ = some (.int .u64 x.rank) := cell_of_blk hbx8 1
                obtain ⟨bs, hbs⟩ : ∃ b, decide (ltC y x) = b := ⟨_, rfl⟩
                have HC2 : Hid (cntC x (U.take (m + 1)) = cn + (if bs then 1 else 0)) := by show _ = _; rw [HC1.out, ← hbs]; simp
                rw [hbs]
                clear hf8 hby hby8 hbx8 hbs x0 x1 f0 f1
                obtain ⟨q, hq, hqc⟩ : ∃ q, eqC y x = q ∧ ((y.key.toList = x.key.toList ∧ (y.rank : Int) = (x.rank : Int) ∧ q = true) ∨ (y.key.toList = x.key.toList ∧ ¬ (y.rank : Int) = (x.rank : Int) ∧ q = false) ∨ (¬ y.key.toList = x.key.toList ∧ q = false)) := by
                  refine ⟨_, rfl, ?_⟩
                  unfold eqC
                  by_cases h1 : y.key.toList = x.key.toList
                  · by_cases h2 : y.rank = x.rank
                    · exact .inl ⟨h1, by omega, by simp [h1, h2]⟩
                    · exact .inr (.inl ⟨h1, by omega, by simp [h2]⟩)
                  · exact .inr (.inr ⟨h1, by simp [h1]⟩)
                have HA2 : Hid (amC x (U.take (m + 1)) = (am || q)) := by show _ = _; rw [HA1.out, hq]
                clear hq
                cases am
                · rcases hqc with ⟨k1, k2, rfl⟩ | ⟨k1, k2, rfl⟩ | ⟨k1, rfl⟩
                  all_goals
                    cases bs
                    all_goals
                      go_wp2
                      go_roundw
                      case rel => exact ⟨m + 1, by go_num, by omega, by rw [HC2.out]; go_num, by rw [HA2.out]; rfl, HG8.out⟩
                      case measure => simp [intOf]; omega
                · clear hqc
                  cases bs
                  all_goals
                    go_wp2
                    go_roundw
                    case rel => exact ⟨m + 1, by go_num, by omega, by rw [HC2.out]; go_num, by rw [HA2.out]; rfl, HG8.out⟩
                    case measure => simp [intOf]; omega
              · obtain rfl : m = U.length := by omega
                rw [List.take_length, HCNT.out, HMEM.out]
                have HF9 : Hid (Fr (fun _ => False) w5 wq) := HF6.out.wide HG.out (fun _ h => h.elim)
                go_wp2
                go_roundw
                case rel => exact ⟨k + 1, by go_num, by omega, HF9.out⟩
                case measure => simp [intOf]; omega
          · have HK6 := Lib.hid (HK5.out.quiet HF.out)
            clear HU5 HK5 HF
            go_wp2_with fail
            go_loopw [101] (fun i wr => ∃ (j : Nat) (vr2 : Value), i = .int .i64 j ∧ j ≤ K.length ∧ Hid (Un w w1.heap.size p N vr2 (K.drop j) (.slice ka K.length kc) K wr)) (fun i _ => K.length - (intOf i).toNat)
            case atStart => exact ⟨0, vr, rfl, by omega, HK6.out⟩
            case round =>
              obtain ⟨j, vr2, rfl, hj, HT⟩ := hrel
              obtain ⟨wq, rfl⟩ : ∃ x, x = wr := ⟨_, rfl⟩
              clear HK6
              by_cases hlt3 : j < K.length
              · obtain ⟨g, off, rfl, d0, d1⟩ := cd_at (RdC.of_owns HT.out.u) j hlt3
                have hdr : K.drop j = K[j] :: K.drop (j + 1) := List.drop_eq_getElem_cons hlt3
                obtain ⟨x, hx⟩ : ∃ x, K[j] = x := ⟨_, rfl⟩
                rw [hx] at d0 d1 hdr
                rw [hdr] at HT
                have hb0 : (0 : Int) ≤ (j : Int) := by omega
                have hb1 : (j : Int) < (K.length : Int) := by omega
                have HTA := Lib.hid (HT.out.quiet (Fr.alloc (fun _ => False) wq (.cells #[.string x.key, .int .u64 x.rank] 73)))
                have hbx := alloc_at wq (.cells #[.string x.key, .int .u64 x.rank] 73)
                clear hdr hx
                go_wp2_with fail
                refine (take_any _ _ p N vr2 (x :: K.drop (j + 1)) HTA.out.k.a).mono ?_
                rintro e w8 ⟨vr8, rfl, hp8, hv8, hf8⟩
                have HT8 := Lib.hid (HTA.out.turn hp8 hf8 (fun g hg => .inl (by rw [← hv8]; exact hg)))
                have hx8 := (hf8.block _ (Array.getElem?_eq_some_iff.1 hbx).1 (fun e => by
                  rcases e with e | e
                  · have := HT.out.k.a.lt; omega
                  · have := (own_blk HT.out.k.a.row e).2.1; omega)).trans hbx
                have x0 : w8.cell? ⟨wq.heap.size, 0, none⟩ = some (.string x.key) := cell_of_blk hx8 0
                have x1 : w8.cell? ⟨wq.heap.size, 1, none⟩ = some (.int .u64 x.rank) := cell_of_blk hx8 1
                have hxl : wq.heap.size < w8.heap.size := (Array.getElem?_eq_some_iff.1 hx8).1
                have HT9 := Lib.hid (HT8.out.quiet (Fr.alloc (fun _ => False) w8 (.cells #[.string x.key, .int .u64 x.rank] 73)))
                clear hp8 hv8 hf8 hx8 hbx d0 d1
                go_wp2
                go_roundw
                case rel => exact ⟨j + 1, vr8, by go_num, by omega, HT9.out⟩
                case measure => simp [intOf]; omega
              · obtain rfl : j = K.length := by omega
                rw [List.drop_length] at HT
                go_wp2_with fail
                refine (take_any wq _ p N vr2 [] HT.out.k.a).mono ?_
                rintro e w8 ⟨rfl, hp8, hf8⟩
                have HT8 := Lib.hid ((HT.out.turn hp8 hf8 (fun g hg => .inl hg)).quiet (Fr.alloc (fun _ => False) w8 (.cells #[.string ⟨#[]⟩, .int .u64 0] 73)))
                clear hp8 hf8
                go_wp2_with fail
                refine (candidates_any _ _ p N vr2 [] HT8.out.k.a).mono ?_
                rintro e w9 ⟨v9, rfl, hr9, hb9⟩
                obtain ⟨a9, c9, rfl⟩ := owns_sliceN hr9
                have HT10 := Lib.hid (HT8.out.quiet ⟨hb9.os, hb9.tape, hb9.output, hb9.size, fun k hk _ => hb9.block k hk⟩)
                clear hr9 hb9
                go_wp2
                go_ret
                exact ⟨rfl, HT10.out.k.bel⟩
set_option maxRecDepth 100000 in
theorem poolSoonest_lifted (os : Os) (started : os.Started) (H : Type) (enc : TypeId × Value → H) :
    ReturnsInHanded {} Try.checked os 9 .any (Rows.poolSoonestSpec.pre6 enc Try.prog Try.f9 Rows.poolSoonestRow.domain false) (Rows.poolSoonestSpec.post enc Try.prog Try.f9 false true false false) := by
  refine returnsInHanded_of_change_sized (C := Try.checked) own started (by kernel_rfl) Try.func9
    (ChangeSpec.witness6 (enc := enc) (C := Try.checked) false ⟨#[], #[.int .i64 0, .slice none 0 0], []⟩ 8 (by kernel_rfl) (by kernel_rfl) (by kernel_rfl) (by kernel_rfl)) ?_
  intro W base args ds gs before hval0 hW hcnd hsz0 _
  have hval : ∀ (j : Nat) t v, Try.f9.params[j]? = some t → args[j]? = some v → Value.okWide Try.prog W .any base t v := hval0
  have hW' := hW
  obtain ⟨p, q, hA0, hV, rfl, hfz, hnd⟩ := hW
  have hA : DataW.TrodAll enc Try.prog W 0 (fun _ => true) true Try.f9.params.toList args.toList ds p := hA0
  rw [Try.params9] at hA hval
  obtain ⟨v0, vs0, d0, ds0, p0, q0, hargs, rfl, rfl, h0, r0⟩ := trodAll_cons hA
  obtain ⟨v1, vs1, d1, ds1, p1, q1, rfl, rfl, rfl, h1, r1⟩ := trodAll_cons r0
  obtain ⟨rfl, rfl, rfl⟩ := trodAll_nil r1
  obtain rfl : args = #[v0, v1] := by cases args; simp_all
  obtain ⟨rfl, rfl⟩ := trodVars_none hV
  have hsz : (DataW.weightsEach Try.prog [3, 67] [d0, d1]).all (fun x => decide (x ≤ reachBytes)) = true := by
    have h := hsz0
    simp only [List.append_nil] at h
    have e : (Try.f9.params.toList ++ DataSpec.varTypes Try.checked.prog Rows.poolSoonestSpec.plain) = [3, 67] := by kernel_rfl
    rw [e] at h; exact h
  clear hsz0
  obtain ⟨hw0, hsz0⟩ := weights_cons hsz
  obtain ⟨x0, rfl, lo0, hi0⟩ := open_i64 Try.underlying3 (hval 0 3 v0 rfl rfl) h0
  obtain ⟨hw1, hsz1⟩ := weights_cons hsz0
  obtain ⟨fu1, hf1⟩ := trod_one h1 (okWide_slice Try.underlying67 (hval 1 67 v1 rfl rfl))
  obtain ⟨l1, hr1, hby1, hok1⟩ := open_cands hf1 hw1
  clear hA0 hval0
  refine (poolSoonest_walk W x0 lo0 hi0 v1 l1 hr1 hby1 hok1).mono fun e W' ⟨he, bel⟩ => ?_
  subst he
  exact ⟨_, rfl, law_post laidOut Try.underlying4 (by kernel_rfl) rfl (by kernel_rfl) hW' rfl bel⟩

theorem poolSoonest_holds : Rows.PoolSoonestSaid :=
  OpenClaim.holds_of_wide 9 Try.f9 rfl rfl rfl rfl rfl rfl rfl ⟨rfl, rfl, rfl, rfl, rfl⟩ rfl rfl rfl rfl rfl (by kernel_rfl) Try.func9 (by kernel_rfl)
    (of_decide_eq_true (by kernel_rfl)) (by unfold Func.isWrapper; rw [if_neg (of_decide_eq_false (by kernel_rfl))]; exact ⟨rfl, rfl⟩)
    (fun os started H enc _ => poolSoonest_lifted os started H enc)
end Go.Proofs.Ytpcjogmikgfgdaa
