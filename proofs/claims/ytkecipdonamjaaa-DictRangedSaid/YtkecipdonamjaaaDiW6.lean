/- The walk of package dict's Set at int. -/
import Derived.Test.YtkecipdonamjaaaDiW5
import Derived.Outline
namespace Go.Proofs.Ytkecipdonamjaaa.Di
open Go.RowKit
set_option maxRecDepth 100000 in
set_option maxHeartbeats 2000000 in
theorem set_any (w : World) (d : Nat) (M : DM) (key : ByteArray) (x : Int) (hs : key.size ≤ maxLen) (h : DAt w d M) (hn : M.n < 17592186044416) :
    Calls Try.prog 22 #[.pointer (some ⟨d, 0, none⟩), .string key, .int .i64 x] w fun e w' =>
      e = .returned (.bool (!hasK (tb M) key)) ∧ ∃ t b, Turn w d M w' (setM M key [.int .i64 x] t b) := by
  have HS := Lib.hid (step_turn w d M h)
  have HI := Lib.hid h.inv
  have hnn : Hid ((stepM M).n = M.n) := (step_lens M).2.2.2
  clear h
  go_enter Try.func22, Try.ntmps22
  go_wp2_with fail
  refine HS.out.mono ?_
  rintro e w1 ⟨rfl, T1⟩
  have h1 := T1.at_
  have HF := find_any w1 d (stepM M) key hs h1
  rcases put_dat h1 key with ⟨k1, k2⟩ | ⟨A, e, nx, k1, k3, k4, k5, k6, k7⟩
  · rw [k1] at HF
    have HF2 := Lib.hid HF; clear HF
    obtain ⟨hno, hl1, hl2⟩ := put_none h1.inv key [.int .i64 x] (k2 _)
    have hhas := hasnt_of HI.out key hno
    have HH := Lib.hid hhas; clear hhas
    have H1 := Lib.hid h1
    have HK2 := Lib.hid k2
    have HNO := Lib.hid hno
    clear k1 k2 hl1 hl2 hno
    obtain ⟨G, hG⟩ : ∃ G, stepM M = G := ⟨_, rfl⟩
    rw [hG] at H1 HK2 HNO T1 hnn h1
    have HGG := Lib.hid hG; clear hG
    have hn1 : G.n < 17592186044416 := by have := hnn.out; omega
    have T1' := Lib.hid T1; clear T1
    go_wp2_with fail
    refine HF2.out.mono ?_
    rintro e w' ⟨rfl, rfl⟩
    go_upto_block 0 with (fail)
    obtain ⟨f0, f1, f2, f3, f4, f5⟩ := blk_field h1.rep.head
    have hlo := h1.lold
    have hly := h1.lyoung
    have fz1 := f5 1
    have fz2 := f5 2
    have hd1 := h1.rep.lt (k := d) (Bs.cons_iff.2 (.inl rfl))
    have fzq : ∀ n o, ((w1.drewN n).alloc o).frozen? ⟨d, 2, none⟩ = false := fun n o => (World.frozen?_alloc_past (w := w1.drewN n) o d 2 hd1).trans fz2
    have f2q : ∀ n o, ((w1.drewN n).alloc o).cell? ⟨d, 2, none⟩ = some (tv G.tyoung G.young) := fun n o => (Fr.alloc (fun _ => False) (w1.drewN n) o).cell f2 (fun h => h)
    clear f0 f3 f5 h1
    go_cut [] from 7 to 100 (fun wc => GrowPost w1 d G wc)
    case first =>
      by_cases ho : G.old = []
      · have hy : G.young = [] := by
          cases hy : G.young with
          | nil => rfl
          | cons a l => exact absurd ho (old_of_young H1.out.inv (by rw [hy]; simp))
        rw [ho, tv_nil] at f1
        rw [hy, tv_nil] at f2
        have HO := Lib.hid ho; clear ho
        have HY := Lib.hid hy; clear hy
        have hmk : ∀ w : World, (Instr.makeSlice 107 (.int .i64 4) (.int .i64 4)).run Try.prog w = .ok (.slice (some ⟨w.heap.size, 0, none⟩) 4 4) (w.alloc (.cells #[.pointer none, .pointer none, .pointer none, .pointer none] 112)) :=
          fun w => mk_any (P := Try.prog) 107 112 _ _ (.pointer none) (by kernel_rfl) rfl rfl rfl rfl rfl 4 (by decide) w
        go_wp2_with fail
        go_meet
        case rel =>
          exact grow_turn1 H1.out hn1 HO.out _ rfl
      · have HO := Lib.hid ho
        have hlt : 0 < G.old.length := List.length_pos_iff.2 ho
        have hne0 : ((G.old.length : Int) == 0) = false := beq_eq_false_iff_ne.2 (by omega)
        rw [tv_of ho] at f1
        by_cases hy : G.young = []
        · have hmv := fun m => moving_q w1 m d G.tyoung G.young false (by simp [hy]) (by omega) f2
          have HMV := Lib.hid hmv; clear hmv
          rw [hy, tv_nil] at f2 f2q
          have HY := Lib.hid hy; clear hy ho
          by_cases hg : G.old.length ≤ G.n
          · have hg1 : decide (G.old.length ≤ G.n) = true := by simpa using hg
            have HG := Lib.hid hg
            have hmk : ∀ w : World, (Instr.makeSlice 107 (.int .i64 (2 * (G.old.length : Int))) (.int .i64 (2 * (G.old.length : Int)))).run Try.prog w = .ok (.slice (some ⟨w.heap.size, 0, none⟩) (2 * G.old.length) (2 * G.old.length)) (w.alloc (.cells (List.replicate (2 * G.old.length) (.pointer none)).toArray 112)) :=
              fun w => by
                have := mk_any (P := Try.prog) 107 112 _ _ (.pointer none) (by kernel_rfl) rfl rfl rfl rfl rfl (2 * G.old.length) (by omega) w
                rw [Int.natCast_mul] at this
                exact this
            clear hg
            go_wp2_with fail
            go_quiet ((go_at_call 65; exact HMV.out _))
            go_wp2_with fail
            go_meet
            case rel =>
              exact grow_turn2 H1.out hn1 HO.out HY.out HG.out _ _ rfl
          · have hg1 : decide (G.old.length ≤ G.n) = false := by simpa using hg
            have HG := Lib.hid hg; clear hg
            go_wp2_with fail
            go_quiet ((go_at_call 65; exact HMV.out _))
            go_wp2_with fail
            go_meet
            case rel =>
              exact grow_turn0 H1.out HO.out (fun e => HG.out e.2) _ _ rfl
        · have hmv := fun m => moving_q w1 m d G.tyoung G.young true (by simp [hy]) (by omega) f2
          have HMV := Lib.hid hmv; clear hmv
          have HY := Lib.hid hy; clear hy ho f2
          go_wp2_with fail
          go_quiet ((go_at_call 65; exact HMV.out _))
          go_wp2_with fail
          go_meet
          case rel =>
            exact grow_turn0 H1.out HO.out (fun e => HY.out e.1) _ _ rfl
    case rest =>
      obtain ⟨t, T2⟩ := hcut
      obtain ⟨g1, g2, g3, g4, g5⟩ := grow_inv H1.out.inv t
      obtain ⟨K, hK⟩ : ∃ K, growM G t = K := ⟨_, rfl⟩
      rw [hK] at T2 g1 g2 g3 g4 g5
      have hk : ∀ y ∈ entries K, y.key ≠ key := by rw [g2]; exact HNO.out
      have HKN := Lib.hid hk; clear hk
      have HK := Lib.hid hK; clear hK
      have h2 := T2.at_
      have hKn : K.n < 17592186044416 := by omega
      have HG3 := Lib.hid g3
      have H2 := Lib.hid h2
      have T2 := Lib.hid T2
      clear g1 g2 g4 g5 f1 f2 f4 f2q fzq fz1 fz2 hn1
      obtain ⟨q0, q1, q2, q3, q4, q5⟩ := blk_field h2.rep.head
      by_cases hy : K.young = []
      ·
        have hM := moving_any wc d K.tyoung K.young (by have := h2.lyoung; omega) q2
        rw [show decide (K.young ≠ []) = false by simp [hy]] at hM
        have HM := Lib.hid hM; clear hM
        have hlt := slotOf_lt K.seed K.old.length key (List.length_pos_iff.2 g3)
        obtain ⟨c, hc⟩ : ∃ c, K.old[slotOf K.seed K.old.length key]? = some c := ⟨_, List.getElem?_eq_getElem hlt⟩
        have R2 : Rep (wc.alloc (entryObj 114 ⟨wc.heap.size, key, [.int .i64 x]⟩ (.pointer none))) ((wc.heap.size, entryObj 114 ⟨wc.heap.size, key, [.int .i64 x]⟩ (.pointer none)) :: dictL d K) := Rep.cons (alloc_at _ _) (h2.rep.alloc _)
        have N2 : Nd ((wc.heap.size, entryObj 114 ⟨wc.heap.size, key, [.int .i64 x]⟩ (.pointer none)) :: dictL d K) := Nd.cons_iff.2 ⟨fun hb => Nat.lt_irrefl _ (h2.rep.lt hb), h2.nd⟩
        have hrowK := (dict_row_old R2.tail g3).1
        have hltt : K.told < wc.heap.size := h2.rep.lt (by rw [dict_bs]; exact .inr (.inl ⟨g3, rfl⟩))
        obtain ⟨r1, r2, r3⟩ := hang_old (e := ⟨wc.heap.size, key, [.int .i64 x]⟩) R2 N2 g3 hc
        obtain ⟨kk, _, hkk⟩ := h2.inv.sold g3
        have hh := hang_any (wc.alloc (entryObj 114 ⟨wc.heap.size, key, [.int .i64 x]⟩ (.pointer none))) d K.told K.old K.seed ⟨wc.heap.size, key, [.int .i64 x]⟩ (.pointer none) kk hkk (pow_lt60 hkk h2.lold) hs rfl
          ((Fr.alloc (fun _ => False) wc _).cell q0 (fun h => h)) hrowK (alloc_at _ _) (by show ¬ wc.heap.size = K.told; omega) _ rfl c hc
        have HH2 := Lib.hid hh; clear hh
        have HR1 := Lib.hid r1; clear r1
        have HR2 := Lib.hid r2; clear r2
        have HR3 := Lib.hid r3; clear r3
        have HMem : Hid (Bs (dictL d K) K.told) := by show Bs _ _; rw [dict_bs]; exact .inr (.inl ⟨g3, rfl⟩)
        have HY := Lib.hid hy
        rw [tv_of g3] at q1
        skip
        clear hc R2 N2 hrowK hlt hkk q0 q3 q4 q5 hy
        go_wp2_with fail
        refine HM.out.mono ?_
        rintro e' w' ⟨rfl, rfl⟩
        go_wp2_with fail
        refine HH2.out.mono ?_
        rintro e' w5 ⟨rfl, hw5⟩
        have R5 : Rep w5 (dictL d { K with old := hangM K.seed K.old ⟨wc.heap.size, key, [.int .i64 x]⟩ }) := by rw [← hw5]; exact HR1.out
        have F5 : Fr (Bs (dictL d K)) wc w5 := by
          rw [← hw5]
          exact ((Fr.alloc _ _ _).thenSet _ _ (fun h => absurd h (Nat.lt_irrefl _))).thenSet _ _ (fun _ => HMem.out)
        have HR5 := Lib.hid R5
        have HF5 := Lib.hid F5
        obtain ⟨q0, q1, q2, q3, q4, q5⟩ := blk_field R5.head
        simp only at q4
        have fz4 := q5 4
        clear hw5 R5 F5 q0 q1 q2 q3 q5
        go_wp2
        go_ret
        refine ⟨by rw [HH.out]; rfl, t, wc.heap.size, ?_⟩
        have hset : setM M key [.int .i64 x] t wc.heap.size = addM K ⟨wc.heap.size, key, [.int .i64 x]⟩ := by unfold setM; rw [HGG.out, HK2.out, HK.out]
        rw [hset]
        exact (T1'.out.trans T2.out).trans (add_turn H2.out HG3.out ⟨wc.heap.size, key, [.int .i64 x]⟩ rfl ⟨rfl, hs⟩ HKN.out HR5.out HR2.out (by rw [addM_old _ _ HY.out]) HF5.out
          (fun k hk => ((Bs.cons_iff.1 ((HR3.out k).1 hk)).imp (fun e => Nat.le_of_eq e.symm) id).symm) _ rfl)
      ·
        have hM := moving_any wc d K.tyoung K.young (by have := h2.lyoung; omega) q2
        rw [show decide (K.young ≠ []) = true by simp [hy]] at hM
        have HM := Lib.hid hM; clear hM
        have hlt := slotOf_lt K.seed K.young.length key (List.length_pos_iff.2 hy)
        obtain ⟨c, hc⟩ : ∃ c, K.young[slotOf K.seed K.young.length key]? = some c := ⟨_, List.getElem?_eq_getElem hlt⟩
        have R2 : Rep (wc.alloc (entryObj 114 ⟨wc.heap.size, key, [.int .i64 x]⟩ (.pointer none))) ((wc.heap.size, entryObj 114 ⟨wc.heap.size, key, [.int .i64 x]⟩ (.pointer none)) :: dictL d K) := Rep.cons (alloc_at _ _) (h2.rep.alloc _)
        have N2 : Nd ((wc.heap.size, entryObj 114 ⟨wc.heap.size, key, [.int .i64 x]⟩ (.pointer none)) :: dictL d K) := Nd.cons_iff.2 ⟨fun hb => Nat.lt_irrefl _ (h2.rep.lt hb), h2.nd⟩
        have hrowK := (dict_row_young R2.tail hy).1
        have hltt : K.tyoung < wc.heap.size := h2.rep.lt (by rw [dict_bs]; exact .inr (.inr (.inl ⟨hy, rfl⟩)))
        obtain ⟨r1, r2, r3⟩ := hang_young (e := ⟨wc.heap.size, key, [.int .i64 x]⟩) R2 N2 hy hc
        obtain ⟨kk, _, hkk⟩ := h2.inv.syoung hy
        have hh := hang_any (wc.alloc (entryObj 114 ⟨wc.heap.size, key, [.int .i64 x]⟩ (.pointer none))) d K.tyoung K.young K.seed ⟨wc.heap.size, key, [.int .i64 x]⟩ (.pointer none) kk hkk (pow_lt60 hkk h2.lyoung) hs rfl
          ((Fr.alloc (fun _ => False) wc _).cell q0 (fun h => h)) hrowK (alloc_at _ _) (by show ¬ wc.heap.size = K.tyoung; omega) _ rfl c hc
        have HH2 := Lib.hid hh; clear hh
        have HR1 := Lib.hid r1; clear r1
        have HR2 := Lib.hid r2; clear r2
        have HR3 := Lib.hid r3; clear r3
        have HMem : Hid (Bs (dictL d K) K.tyoung) := by show Bs _ _; rw [dict_bs]; exact .inr (.inr (.inl ⟨hy, rfl⟩))
        have HY := Lib.hid hy
        rw [tv_of g3] at q1
        rw [tv_of hy] at q2
        clear hc R2 N2 hrowK hlt hkk q0 q3 q4 q5 hy
        go_wp2_with fail
        refine HM.out.mono ?_
        rintro e' w' ⟨rfl, rfl⟩
        go_wp2_with fail
        refine HH2.out.mono ?_
        rintro e' w5 ⟨rfl, hw5⟩
        have R5 : Rep w5 (dictL d { K with young := hangM K.seed K.young ⟨wc.heap.size, key, [.int .i64 x]⟩ }) := by rw [← hw5]; exact HR1.out
        have F5 : Fr (Bs (dictL d K)) wc w5 := by
          rw [← hw5]
          exact ((Fr.alloc _ _ _).thenSet _ _ (fun h => absurd h (Nat.lt_irrefl _))).thenSet _ _ (fun _ => HMem.out)
        have HR5 := Lib.hid R5
        have HF5 := Lib.hid F5
        obtain ⟨q0, q1, q2, q3, q4, q5⟩ := blk_field R5.head
        simp only at q4
        have fz4 := q5 4
        clear hw5 R5 F5 q0 q1 q2 q3 q5
        go_wp2
        go_ret
        refine ⟨by rw [HH.out]; rfl, t, wc.heap.size, ?_⟩
        have hset : setM M key [.int .i64 x] t wc.heap.size = addM K ⟨wc.heap.size, key, [.int .i64 x]⟩ := by unfold setM; rw [HGG.out, HK2.out, HK.out]
        rw [hset]
        exact (T1'.out.trans T2.out).trans (add_turn H2.out HG3.out ⟨wc.heap.size, key, [.int .i64 x]⟩ rfl ⟨rfl, hs⟩ HKN.out HR5.out HR2.out (by rw [addM_young _ _ HY.out]) HF5.out
          (fun k hk => ((Bs.cons_iff.1 ((HR3.out k).1 hk)).imp (fun e => Nat.le_of_eq e.symm) id).symm) _ rfl)
  · rw [k1] at HF
    have HF2 := Lib.hid HF; clear HF
    obtain ⟨N, hN, hdat⟩ := k7 (.int .i64 x)
    obtain ⟨v0, hv0⟩ : ∃ v0, e.val = [v0] := List.length_eq_one_iff.1 k5
    have hc0 : w1.cell? ⟨e.b, 1, none⟩ = some v0 := by rw [cell_of_blk k4, hv0]; rfl
    have hfz : w1.frozen? ⟨e.b, 1, none⟩ = false := free_of_blk k4 1
    rw [hv0] at hN
    have hN' : putM (stepM M) key [.int .i64 x] = some N := hN
    have T3 : Turn w1 d (stepM M) (w1.setCell ⟨e.b, 1, none⟩ (.int .i64 x)) N :=
      ⟨hdat, (Fr.refl _ w1).thenSet _ _ (fun _ => k6), fun k hk => .inl (put_bs d h1.inv key _ hN' k hk)⟩
    have HT3 := Lib.hid (T1.trans T3)
    have hhas := has_put HI.out key _ hN'
    have HH := Lib.hid hhas; clear hhas
    have HN := Lib.hid hN'
    clear T3 T1 h1 hN hN' hdat hv0 k1 k4 k5 k6 k7
    go_wp2_with fail
    refine HF2.out.mono ?_
    rintro e' w' ⟨rfl, rfl⟩
    go_wp2
    go_ret
    refine ⟨by rw [HH.out]; rfl, 0, 0, ?_⟩
    have hset : setM M key [.int .i64 x] 0 0 = N := by unfold setM; rw [HN.out]
    rw [hset]
    exact HT3.out
end Go.Proofs.Ytkecipdonamjaaa.Di
