/- pantrylaw05's once: Each tells each entry of the list once, and nothing else. No condition. -/
import Derived.Test.YtkecipdonamjaaaDiE3
import Derived.Test.YtkecipdonamjaaaDoes
import Derived.Test.YtkecipdonamjaaaDrawn
import Derived.Laws.MakeOwn
import Derived.Laws.NewBlocks
namespace Go.Proofs.Ytkecipdonamjaaa
open Go.RowKit Go.Shelf Di
attribute [local go_sem] Oper.semAt_some
def valI (e : E) : Int := match e.val with
  | [.int _ x] => x
  | _ => 0
def toEn (e : E) : En := (e.key, valI e)
def eachL (M : DM) : Pl := (opn M).flatten.map toEn
theorem each_val {M : DM} {L : Pl} (h : Like M L) : ∀ e ∈ (opn M).flatten, ∃ xx : Int, e.val = [.int .i64 xx] := by
  intro e he
  rw [opn_flatten h.inv] at he
  have h1 : pairOf e ∈ tb M := List.mem_map.2 ⟨e, he, rfl⟩
  obtain ⟨x, _, hx⟩ := List.mem_map.1 (h.perm.mem_iff.1 h1)
  exact ⟨x.2, (congrArg Prod.snd hx).symm⟩
theorem each_perm {M : DM} {L : Pl} (h : Like M L) : (eachL M).Perm L := by
  have h1 : (eachL M).map enPair = tb M := by
    unfold eachL tb
    rw [List.map_map, ← opn_flatten h.inv]
    refine List.map_congr_left fun e he => ?_
    obtain ⟨x, hx⟩ := each_val h e he
    show (e.key, [Value.int .i64 (valI e)]) = (e.key, e.val)
    unfold valI
    rw [hx]
  have h2 : ((eachL M).map enPair).Perm (L.map enPair) := by rw [h1]; exact h.perm
  have inj : ∀ a b : En, enPair a = enPair b → a = b := by
    rintro ⟨a1, a2⟩ ⟨b1, b2⟩ e
    have e1 := congrArg Prod.fst e
    have e2 := congrArg Prod.snd e
    simp only [enPair, List.cons.injEq, Value.int.injEq, and_true, true_and] at e1 e2
    rw [e1, e2]
  have inv : ∀ l : Pl, (l.map enPair).map (fun p => ((p.1, match p.2 with | [.int _ x] => x | _ => 0) : En)) = l := by
    intro l
    rw [List.map_map]
    conv => rhs; rw [← List.map_id l]
    exact List.map_congr_left fun _ _ => rfl
  have h3 := h2.map (fun p => ((p.1, match p.2 with | [.int _ x] => x | _ => 0) : En))
  rwa [inv, inv] at h3
theorem each_len {M : DM} {L : Pl} (h : Like M L) : (opn M).flatten.length = L.length := by
  have := (each_perm h).length_eq
  rw [← this]; unfold eachL; rw [List.length_map]
/-- how often an entry stands in a list -/
def cntE (e : En) (l : Pl) : Nat := (l.filter fun x => decide (x = e)).length
theorem cntE_snoc (e x : En) (l : Pl) : cntE e (l ++ [x]) = cntE e l + if x = e then 1 else 0 := by
  unfold cntE
  rw [List.filter_append, List.length_append]
  by_cases h : x = e <;> simp [List.filter_cons, h]
theorem cntE_one {S L : Pl} (h : S.Perm L) (hn : (L.map (·.1)).Nodup) {e : En} (he : e ∈ L) : cntE e S = 1 := by
  have h1 : cntE e S = cntE e L := (h.filter _).length_eq
  rw [h1]
  unfold cntE
  have hnd : L.Nodup := (List.pairwise_map.1 hn).imp (fun h e => h (by rw [e]))
  clear h h1 hn S
  induction L with
  | nil => cases he
  | cons a l ih =>
    have hnd2 := List.nodup_cons.1 hnd
    by_cases ha : a = e
    · subst ha
      rw [List.filter_cons, if_pos (by simp)]
      have : l.filter (fun x => decide (x = a)) = [] := by
        rw [List.filter_eq_nil_iff]
        intro x hx hxe
        have : x = a := by simpa using hxe
        exact hnd2.1 (this ▸ hx)
      rw [this]; rfl
    · rw [List.filter_cons, if_neg (by simpa using ha)]
      exact ih (by rcases List.mem_cons.1 he with h | h; exact absurd h.symm ha; exact h) hnd2.2
theorem cntE_le (e : En) (l : Pl) : cntE e l ≤ l.length := List.length_filter_le _ _
theorem lit_cells {w : World} {cs : Array Value} {t : TypeId} : ∀ j u, cs.toList[j]? = some u → (w.alloc (.cells cs t)).cell? ((⟨w.heap.size, 0, none⟩ : Addr).add j) = some u := by
  intro j u hu
  rw [Addr.add_lit, Nat.zero_add, cell_of_blk (alloc_at w (.cells cs t)) j]
  simpa using hu
/-- what stands while the keys come -/
structure Sn (w : World) (L : Pl) (vL vs : Value) (S : Pl) (V : World) : Prop where
  b0 : Boxed V w.heap.size 39 vL
  b1 : Boxed V (w.heap.size + 1) 4 (.bool false)
  b3 : Boxed V (w.heap.size + 1 + 1 + 1) 39 vs
  row : V.ownsRow w.heap.size 54 2 vs S.length (S.flatMap enCells)
  fr : Fr (fun _ => False) w V
theorem Sn.turn {w A B : World} {L : Pl} {vL vs : Value} {S : Pl} (h : Sn w L vL vs S A) {row : Option Nat} (hg : A.grownBy B row) (hr : ∀ r, row = some r → w.heap.size ≤ r ∧ ∃ o : Obj, A.heap[r]? = some o ∧ o.isCells = false) : Sn w L vL vs S B := by
  have hne : ∀ k cs t m, A.heap[k]? = some (.cells cs t m) → some k ≠ row := by
    intro k cs t m hk e
    obtain ⟨_, o, ho, hc⟩ := hr k e.symm
    rw [hk] at ho
    cases ho
    cases hc
  refine ⟨h.b0.kept hg (hne _ _ _ _ h.b0), h.b1.kept hg (hne _ _ _ _ h.b1), h.b3.kept hg (hne _ _ _ _ h.b3), own_same h.row fun g hgv => ?_, h.fr.wide (Fr.of_grownBy hg) (fun i hi => .inr (hr i hi).1)⟩
  obtain ⟨_, hl, cs, hc⟩ := own_blk h.row hgv
  exact hg.block g hl (hne g _ _ _ hc)
theorem Sn.quiet {w A B : World} {L : Pl} {vL vs : Value} {S : Pl} (h : Sn w L vL vs S A) (hf : Fr (fun _ => False) A B) : Sn w L vL vs S B :=
  h.turn (row := none) ⟨hf.os, hf.tape, hf.output, hf.size, fun k hk _ => hf.block k hk (fun h => h)⟩ (fun r e => by cases e)
theorem Sn.app {w A A1 w' : World} {L : Pl} {vL vs v' : Value} {S : Pl} {e0 : En} (h : Sn w L vL vs S A) (hA : Fr (fun _ => False) A A1)
    (hr : w'.ownsRow w.heap.size 54 2 v' (S.length + 1) (S.flatMap enCells ++ enCells e0)) (hg : A1.grownBy w' vs.ownBlock) :
    Sn w L vL v' (S ++ [e0]) (w'.setCell ⟨w.heap.size + 1 + 1 + 1, 0, none⟩ v') ∧ Fr (fun k => k = w.heap.size + 1 + 1 + 1 ∨ vs.ownBlock = some k) A (w'.setCell ⟨w.heap.size + 1 + 1 + 1, 0, none⟩ v') ∧ w'.cell? ⟨w.heap.size + 1 + 1 + 1, 0, none⟩ = some vs ∧ w'.frozen? ⟨w.heap.size + 1 + 1 + 1, 0, none⟩ = false ∧ w'.cell? ⟨w.heap.size, 0, none⟩ = some vL := by
  have h1 := h.quiet hA
  have k0 := h1.b0.kept hg (h1.b0.not_row (by decide) h1.row)
  have k1 := h1.b1.kept hg (h1.b1.not_row (by decide) h1.row)
  have k3 := h1.b3.kept hg (h1.b3.not_row (by decide) h1.row)
  have hgf := Fr.of_grownBy hg
  have hset := Fr.setCell w' ⟨w.heap.size + 1 + 1 + 1, 0, none⟩ v'
  refine ⟨⟨(hset.block _ k0.lt (by dsimp only; omega)).trans k0, (hset.block _ k1.lt (by dsimp only; omega)).trans k1, k3.set v', ?_, ?_⟩, ?_, k3.cell, k3.frozen, k0.cell⟩
  · rw [List.length_append, List.flatMap_append, List.flatMap_singleton]
    exact own_same hr fun g hgv => hset.block g (own_blk hr hgv).2.1 (fun e => k3.not_row (by decide) hr (by rw [← show g = w.heap.size + 1 + 1 + 1 from e]; exact hgv.symm))
  · exact ((h1.fr.wide hgf (fun i hi => .inr (own_blk h1.row hi).1)).wide hset (fun i hi => .inr (by dsimp only at hi; omega)))
  · exact ((hA.mono (T := fun k => k = w.heap.size + 1 + 1 + 1 ∨ vs.ownBlock = some k) (fun _ h => h.elim)).wide hgf (fun i hi => .inl (.inr hi))).wide hset (fun i hi => .inl (.inl hi))
theorem Sn.others {w A B : World} {L : Pl} {vL vs : Value} {S : Pl} (h : Sn w L vL vs S A) (hf : Fr (fun k => k = w.heap.size + 1 + 1 + 1 ∨ vs.ownBlock = some k) A B) : KeepsOthers A B := by
  refine ⟨hf.size, fun k o hk hc => (hf.block k (Array.getElem?_eq_some_iff.1 hk).1 (fun hw => ?_)).trans hk⟩
  have hcell : ∃ cs t m, A.heap[k]? = some (.cells cs t m) := by
    rcases hw with rfl | hw
    · exact ⟨_, _, _, h.b3⟩
    · obtain ⟨_, _, cs, hb⟩ := own_blk h.row hw; exact ⟨_, _, _, hb⟩
  obtain ⟨cs, t, m, hb⟩ := hcell
  rw [hk] at hb
  cases hb
  cases hc
theorem Sn.keep {w A B : World} {L : Pl} {vL vs : Value} {S : Pl} (h : Sn w L vL vs S A) (hf : Fr (fun k => k = w.heap.size + 1 + 1 + 1 ∨ vs.ownBlock = some k) A B) {n0 : Nat} (hn : w.heap.size + 1 + 1 + 1 < n0) : EachK n0 A B := by
  refine ⟨Keep.of_fr hf fun k cs t m hs hk hw => ?_, Late.of_others _ (h.others hf)⟩
  rcases hw with rfl | hw
  · have := hs.1; omega
  · obtain ⟨_, _, cs', hb⟩ := own_blk h.row hw
    rw [hk] at hb
    cases hb
    rcases hs.2 with e | e | e | e <;> exact absurd e (by decide)
set_option maxRecDepth 100000 in
set_option maxHeartbeats 4000000 in
theorem once_any (w : World) (d : Nat) (M : DM) (L : Pl) (v : Value) (hd : DAt w d M) (hl : Like M L) (hr : RdC w 2 v L.length (L.flatMap enCells)) (hn : L.length ≤ 5864062014000) :
    Calls Try.prog 34 #[.pointer (some ⟨d, 0, none⟩), v] w fun e w' => e = .returned (.bool true) ∧ Fr (fun _ => False) w w' := by
  refine (callsIn_wide (n := 8)).1 ?_
  have HD := Lib.hid hd
  have HLK := Lib.hid hl
  have HR := Lib.hid hr
  obtain ⟨-, a, c, rfl, -⟩ := hr
  obtain ⟨i0, hi, hz0, hz1, hz2⟩ := info_parts infoEn
  have HI := Lib.hid hi
  have HZ0 := Lib.hid hz0
  have HZ1 := Lib.hid hz1
  have HZ2 := Lib.hid hz2
  obtain ⟨cs, hcs, hmk⟩ : ∃ cs : Array Value, cs.size = L.length * 2 ∧ ∀ w : World, (Instr.makeSlice 39 (.int .i64 0) (.int .i64 L.length)).run Try.prog w = .ok (.slice (some ⟨w.heap.size, 0, none⟩) 0 L.length) (w.alloc (.cells cs 54)) := by
    refine ⟨madeCells (Value.agg #[.string ⟨#[]⟩, .int .i64 0]).cells (L.length * i0.size), by rw [size_madeCells, hz1], fun w => ?_⟩
    exact run_make (P := Try.prog) (w := w) 39 54 i0 (.agg #[.string ⟨#[]⟩, .int .i64 0]) Try.underlying39 hi hz0 .i64 .i64 0 L.length (by omega) (by omega) (by rw [hz2]; omega) (by omega)
  have HCS := Lib.hid hcs
  clear hd hl hi hz0 hz1 hz2 hcs
  refine callsIn_of_wp_marks Try.func34 rfl trivial ?_ rfl
  simp only [Try.ntmps34, List.size_toArray, List.length_cons, List.length_nil, Nat.reduceAdd, Nat.reduceSub, Array.replicate_succ, Array.replicate_zero, List.push_toArray, List.append_toArray, List.nil_append, List.cons_append]
  gi_wp2_with fail
  refine ⟨trivial, (each_in _ 7 trivial rfl _ _).mono ?_⟩
  rintro e w' ⟨rfl, rfl⟩
  gi_wp2_with fail
  obtain ⟨Wl, hWl⟩ : ∃ Wl, ((((w.alloc (.cells #[.slice a L.length c] 39)).alloc (.cells #[.bool false] 4)).alloc (.cells cs 54)).alloc (.cells #[.slice (some ⟨w.heap.size + 1 + 1, 0, none⟩) 0 L.length] 39)).alloc (.cells #[.pointer (some ⟨d, 0, none⟩)] 29) = Wl := ⟨_, rfl⟩
  have bN := Boxed.new ((((w.alloc (.cells #[.slice a L.length c] 39)).alloc (.cells #[.bool false] 4)).alloc (.cells cs 54)).alloc (.cells #[.slice (some ⟨w.heap.size + 1 + 1, 0, none⟩) 0 L.length] 39)) 29 (.pointer (some ⟨d, 0, none⟩))
  have hS0 : Sn w L (.slice a L.length c) (.slice (some ⟨w.heap.size + 1 + 1, 0, none⟩) 0 L.length) [] Wl := by
    have b0 := Boxed.new w 39 (.slice a L.length c)
    have b1 := Boxed.new (w.alloc (.cells #[.slice a L.length c] 39)) 4 (.bool false)
    have b3 := Boxed.new (((w.alloc (.cells #[.slice a L.length c] 39)).alloc (.cells #[.bool false] 4)).alloc (.cells cs 54)) 39 (.slice (some ⟨w.heap.size + 1 + 1, 0, none⟩) 0 L.length)
    have hrow := World.ownsRow_made (base := w.heap.size) (e := 54) (size := 2) ((w.alloc (.cells #[.slice a L.length c] 39)).alloc (.cells #[.bool false] 4)) cs L.length (by simp; omega) (by unfold maxLen; omega) HCS.out
    simp only [World.size_alloc] at b1 b3 hrow
    rw [← hWl]
    exact ⟨(((b0.alloc _).alloc _).alloc _).alloc _, ((b1.alloc _).alloc _).alloc _, b3.alloc _, (hrow.alloc _).alloc _, ((((Fr.alloc (fun _ => False) w _).thenAlloc _).thenAlloc _).thenAlloc _).thenAlloc _⟩
  simp only [World.size_alloc] at bN
  rw [hWl] at bN ⊢
  have hsz : w.heap.size + 5 = Wl.heap.size := by rw [← hWl]; simp
  have HSZ := Lib.hid hsz
  have HS0 := Lib.hid hS0
  have HAl : Hid (Al d (w.heap.size + 1 + 1 + 1 + 1) M Wl) := ⟨HD.out.fr hS0.fr (fun _ _ h => h), bN⟩
  have hN : (opn M).flatten.length = L.length := each_len HLK.out
  have HN := Lib.hid hN
  clear hWl bN hS0 hmk hsz hN HCS
  refine wpIn_rangeV rfl (by decide) (gf := 67) (lb := #[.pointer (some ⟨w.heap.size + 1 + 1 + 1 + 1, 0, none⟩)]) rfl trivial (enters_of Try.func67 (by kernel_rfl) rfl)
    (each_stops _ (8 - 1) trivial trivial trivial rfl (by decide) (w.heap.size + 1 + 1 + 1 + 1) d M Wl.heap.size Wl (Nat.le_refl _) HAl.out (each_val HLK.out) (by rw [HLK.out.count]; omega))
    (fun _ _ _ h k => h.trans k) (fun V l r r' _ h => EachK.loop _ V l r r' h) (Below.refl _ _) (fun _ => rfl)
    (fun pre V => ∃ vs, Sn w L (.slice a L.length c) vs (pre.map toEn) V)
    (fun _ _ _ => False)
    ?own (fun _ _ _ _ _ hs _ _ => hs) ⟨_, HS0.out⟩
    (fun x => { tmps := #[.pointer (some ⟨d, 0, none⟩), .slice a L.length c, undef, .pointer (some ⟨w.heap.size, 0, none⟩), .pointer (some ⟨w.heap.size + 1, 0, none⟩), .pointer (some ⟨w.heap.size + 1 + 1 + 1, 0, none⟩), .string x.key, x.val.head?.getD undef, undef, undef, undef, undef, undef, .slice a L.length c, .int .i64 L.length, .slice (some ⟨w.heap.size + 1 + 1, 0, none⟩) 0 L.length, .pointer (some ⟨d, 0, none⟩), .func (.func 67) #[] #[.pointer (some ⟨w.heap.size + 1 + 1 + 1 + 1, 0, none⟩)], .string x.key, x.val.head?.getD undef, undef, undef, undef, undef, undef, undef, undef, undef, undef, undef, undef, undef, undef, undef, undef, undef, undef, undef, undef, undef, undef, undef, undef, undef, undef, undef, undef, undef, undef, undef, undef, undef, undef, undef, undef, undef, undef], defers := [] }) ?assign ?body ?done ?stop
  case own =>
    rintro pre A B row ⟨vs, hS⟩ hg hr
    exact ⟨vs, hS.turn hg fun r e => ⟨by have := (hr r e).1; have := HSZ.out; omega, (hr r e).2⟩⟩
  case assign =>
    intro lr x V K hK
    unfold etE
    gi_wp2
    exact hK
  case body =>
    rintro lr pre x V ⟨vs, hS⟩ hv
    have hx : x ∈ (opn M).flatten := hv.subset (by simp)
    obtain ⟨xx, hxv⟩ := each_val HLK.out x hx
    have hen : Hid (toEn x = (x.key, xx)) := by show _ = _; unfold toEn valI; rw [hxv]
    have hlen : (pre ++ [x]).length ≤ L.length := by rw [← HN.out]; exact hv.length_le
    rw [List.length_append] at hlen
    have hpl : pre.length + 1 ≤ L.length := hlen
    have hval : x.val.head?.getD undef = .int .i64 xx := by rw [hxv]; rfl
    have hrow := hS.row
    rw [List.length_map] at hrow
    obtain ⟨va, vc, rfl⟩ := owns_slice hrow
    have HROW := Lib.hid hrow
    have HS := Lib.hid hS
    have hcb := hS.b3.cell
    have hc0 := hS.b0.cell
    have hb3 := hS.b3.lt
    have hb0 := hS.b0.lt
    dsimp only
    rw [hval]
    obtain ⟨K0, hK0⟩ : ∃ k, pre.length = k := ⟨_, rfl⟩
    rw [hK0] at HROW hcb HS hpl
    have HK0 := Lib.hid hK0
    have HFR : Hid (w.heap.size ≤ V.heap.size) := hS.fr.size
    have g1 : ¬ (L.length : Int) < (K0 : Int) + 1 := by omega
    have g2 : ¬ L.length < K0 + 1 := by omega
    clear hS hx hxv hlen hval hrow hK0 hv
    gi_wp2_with (gi_at_builtin; refine wpListIn_append_own _ rfl (.tmp 20) (.tmp 24) 39 rfl w.heap.size 54 i0 (.agg #[.string ⟨#[]⟩, .int .i64 0]) 2 24 Try.underlying39 HI.out HZ0.out HZ1.out HZ2.out rfl (by decide) _ K0 _ rfl (HROW.out.alloc _) ⟨V.heap.size, 0, none⟩ 1 1 [.string x.key, .int .i64 xx] rfl rfl lit_cells (by simp [Value.oneCell']) (by unfold maxLen; omega) (by omega) (by have := HFR.out; simp; omega) ?_; intro v' w1 hown' hgrow _; obtain ⟨va', vc', rfl⟩ := owns_slice hown'; obtain ⟨q1, q2, q3, q4, q5⟩ := HS.out.app (e0 := (x.key, xx)) (Fr.alloc (fun _ => False) V _) (by rw [List.length_map, HK0.out]; exact hown') hgrow; have Q1 := Lib.hid q1; have Q2 := Lib.hid q2; clear hown' hgrow q1 q2)
    refine ⟨HS.out.others Q2.out, HS.out.keep Q2.out (by have := HSZ.out; omega), .slice va' (K0 + 1) vc', ?_⟩
    rw [List.map_append, List.map_singleton, hen.out]
    exact Q1.out
  case done =>
    rintro D ys V hD rfl ⟨vs, hS⟩ hK
    have hSl : (eachL M).length = L.length := (each_perm HLK.out).length_eq
    have hrow := hS.row
    rw [show ((opn M).flatten.map toEn).length = L.length from hSl] at hrow
    obtain ⟨sa, sc, rfl⟩ := owns_slice hrow
    have HROW : Hid (V.ownsRow w.heap.size 54 2 (.slice sa L.length sc) L.length ((eachL M).flatMap enCells)) := hrow
    have HS : Hid (Sn w L (.slice a L.length c) (.slice sa L.length sc) (eachL M) V) := hS
    have HK := Lib.hid hK
    have HSl := Lib.hid hSl
    have hcb := hS.b3.cell
    have hc0 := hS.b0.cell
    have hb3 := hS.b3.lt
    have hb0 := hS.b0.lt
    clear hS hK hrow hSl HS0 HAl
    gi_wp2_with fail
    gi_loopw [9, 10, 12, 33] (fun _ _ _ i wr => ∃ k : Nat, i = .int .i64 k ∧ k ≤ L.length ∧ Hid (Fr (fun _ => False) V wr)) (fun _ _ _ i _ => L.length - (intOf i).toNat)
    case atStart => exact ⟨0, rfl, by omega, Fr.refl _ _⟩
    case round =>
      obtain ⟨k, rfl, hk, HF⟩ := hrel
      obtain ⟨wo, rfl⟩ : ∃ x, x = wr := ⟨_, rfl⟩
      by_cases hlt : k < L.length
      · have hrd : RdC wo 2 (.slice a L.length c) L.length (L.flatMap enCells) := (HR.out.fr HS.out.fr (fun _ _ h => h)).fr HF.out (fun _ _ h => h)
        obtain ⟨e1, e2⟩ := flat_get L k hlt
        obtain ⟨g1, o1, rfl, hcells⟩ := hrd.at (by rw [flat_len]; omega)
        have d0 := hcells _ _ e1
        have d1 := hcells _ _ e2
        rw [← Nat.add_assoc] at d1
        obtain ⟨en, hen⟩ : ∃ en, L[k] = en := ⟨_, rfl⟩
        rw [hen] at d0 d1
        have HEN := Lib.hid hen
        have hcb2 : wo.cell? ⟨w.heap.size + 1 + 1 + 1, 0, none⟩ = some (.slice sa L.length sc) := HF.out.cell hcb (fun h => h)
        have hsz2 : w.heap.size + 1 + 1 + 1 < wo.heap.size := Nat.lt_of_lt_of_le hb3 HF.out.size
        have hb0i : (0 : Int) ≤ (k : Int) := by omega
        have hb1i : (k : Int) < (L.length : Int) := by omega
        clear hrd e1 e2 hcells hen
        gi_wp2_with fail
        obtain ⟨W1, hW1⟩ : ∃ W, wo.alloc (.cells #[.string en.1, .int .i64 en.2] 54) = W := ⟨_, rfl⟩
        have hbk : W1.heap[wo.heap.size]? = some (.cells #[.string en.1, .int .i64 en.2] 54 (0, 0)) := by rw [← hW1]; exact alloc_at _ _
        have HF1 : Hid (Fr (fun _ => False) V W1) := by rw [← hW1]; exact HF.out.thenAlloc _
        have HBK := Lib.hid hbk
        rw [hW1]
        clear hW1 hbk d0 d1 hcb2
        gi_loopw [10, 12, 39] (fun n _ i wr => ∃ j : Nat, i = .int .i64 j ∧ j ≤ L.length ∧ n = .int .i64 (cntE en ((eachL M).take j) : Nat) ∧ Hid (Fr (fun _ => False) W1 wr)) (fun _ _ i _ => L.length - (intOf i).toNat)
        case atStart => exact ⟨0, rfl, by omega, rfl, Fr.refl (fun _ => False) W1⟩
        case round =>
          obtain ⟨j, rfl, hj, rfl, HF2⟩ := hrel
          obtain ⟨wi, rfl⟩ : ∃ x, x = wr := ⟨_, rfl⟩
          have hcl : cntE en ((eachL M).take j) ≤ j := Nat.le_trans (cntE_le _ _) (List.length_take_le _ _)
          obtain ⟨C, hC⟩ : ∃ C, cntE en ((eachL M).take j) = C := ⟨_, rfl⟩
          rw [hC] at hcl ⊢
          by_cases hlt2 : j < L.length
          · have hfv : Fr (fun _ => False) V wi := HF1.out.wide HF2.out (fun _ h => h.elim)
            have hrow2 := owns_fr HROW.out hfv (fun _ _ h => h)
            obtain ⟨g2, cap2, q2, -, hcell2⟩ := own_at hrow2 (by rw [flat_len, HSl.out]; omega)
            cases q2
            have hj2 : j < (eachL M).length := by rw [HSl.out]; exact hlt2
            obtain ⟨s1, s2⟩ := flat_get (eachL M) j hj2
            have f0 := hcell2 _ _ s1
            have f1 := hcell2 _ _ s2
            obtain ⟨y, hy⟩ : ∃ y, (eachL M)[j] = y := ⟨_, rfl⟩
            rw [hy] at f0 f1
            have hts : (eachL M).take (j + 1) = (eachL M).take j ++ [y] := by rw [List.take_succ_eq_append_getElem hj2, hy]
            have HTS : Hid (cntE en ((eachL M).take (j + 1)) = C + if y = en then 1 else 0) := by show _ = _; rw [hts, cntE_snoc, hC]
            have k0 : wi.cell? ⟨wo.heap.size, 0, none⟩ = some (.string en.1) := HF2.out.cell (by rw [cell_of_blk HBK.out]; rfl) (fun h => h)
            have k1 : wi.cell? ⟨wo.heap.size, 1, none⟩ = some (.int .i64 en.2) := HF2.out.cell (by rw [cell_of_blk HBK.out]; rfl) (fun h => h)
            have ks : wo.heap.size < wi.heap.size := Nat.lt_of_lt_of_le (Array.getElem?_eq_some_iff.1 HBK.out).1 HF2.out.size
            have HFA : Hid (Fr (fun _ => False) W1 (wi.alloc (.cells #[.string y.1, .int .i64 y.2] 54))) := HF2.out.thenAlloc _
            have hb0j : (0 : Int) ≤ (j : Int) := by omega
            have hb1j : (j : Int) < (L.length : Int) := by omega
            clear hfv hrow2 hcell2 s1 s2 hy hts hC
            by_cases hye : y = en
            · have HT2 : Hid (cntE en ((eachL M).take (j + 1)) = C + 1) := by show _ = _; rw [HTS.out, if_pos hye]
              subst hye
              gi_wp2
              go_roundw
              case rel => exact ⟨j + 1, by go_num, by omega, by rw [HT2.out]; go_num, HFA⟩
              case measure => simp [intOf]; omega
            · have HT2 : Hid (cntE en ((eachL M).take (j + 1)) = C) := by show _ = _; rw [HTS.out, if_neg hye, Nat.add_zero]
              by_cases hyk : y.1 = en.1
              · have hq2 : ¬ y.2 = en.2 := fun h => hye (Prod.ext hyk h)
                have hq1 : y.1.toList = en.1.toList := by rw [hyk]
                clear hye hyk
                gi_wp2
                go_roundw
                case rel => exact ⟨j + 1, by go_num, by omega, by rw [HT2.out], HFA⟩
                case measure => simp [intOf]; omega
              · have hq1 : ¬ y.1.toList = en.1.toList := fun h => hyk (by have := str_beq y.1 en.1; rw [h] at this; simpa using this)
                clear hye hyk
                gi_wp2
                go_roundw
                case rel => exact ⟨j + 1, by go_num, by omega, by rw [HT2.out], HFA⟩
                case measure => simp [intOf]; omega
          · obtain rfl : j = L.length := by omega
            have hone : C = 1 := by
              rw [← hC, List.take_of_length_le (by rw [HSl.out]; exact Nat.le_refl _)]
              exact cntE_one (each_perm HLK.out) HLK.out.nodup (by rw [← HEN.out]; exact List.getElem_mem _)
            have HFA : Hid (Fr (fun _ => False) V wi) := HF1.out.wide HF2.out (fun _ h => h.elim)
            rw [hone]
            clear hone hC hcl
            gi_wp2
            go_roundw
            case rel => exact ⟨k + 1, by go_num, by omega, HFA⟩
            case measure => simp [intOf]; omega
      · obtain rfl : k = L.length := by omega
        have hcb2 : wo.cell? ⟨w.heap.size + 1 + 1 + 1, 0, none⟩ = some (.slice sa L.length sc) := HF.out.cell hcb (fun h => h)
        have hc02 : wo.cell? ⟨w.heap.size, 0, none⟩ = some (.slice a L.length c) := HF.out.cell hc0 (fun h => h)
        have hb1 : wo.heap[w.heap.size + 1]? = some (.cells #[.bool false] 4 (0, 0)) := (HF.out.block _ HS.out.b1.lt (fun h => h)).trans HS.out.b1
        have hc1 : wo.cell? ⟨w.heap.size + 1, 0, none⟩ = some (.bool false) := by rw [cell_of_blk hb1]; rfl
        have hf1 : wo.frozen? ⟨w.heap.size + 1, 0, none⟩ = false := free_of_blk hb1 0
        have HD2 : Hid (wo.heap[D]? = some (.deferred (some []))) := (HF.out.block D (Array.getElem?_eq_some_iff.1 HK.out).1 (fun h => h)).trans HK.out
        have HFF : Hid (Fr (fun _ => False) w wo) := HS.out.fr.wide HF.out (fun _ h => h.elim)
        have hwD : w.heap.size ≤ D := by have := HSZ.out; omega
        clear hb1
        gi_wp2
        have hK' : (wo.setCell ⟨w.heap.size + 1, 0, none⟩ (.bool true)).heap[D]? = some (.deferred (some [])) := (KeepsOthers.setCell wo ⟨w.heap.size + 1, 0, none⟩ (.bool true)).same D _ HD2.out rfl
        refine ⟨by simp, .inl ⟨_, _, rfl, run_takeDeferred hK', ?_⟩⟩
        have hc5 := cell_kept (World.cell?_setCell_same' wo ⟨w.heap.size + 1, 0, none⟩ (.bool true) (by rw [hc1]; rfl)) (grownBy_putObj' _ D (.deferred none)) (fun r e => by cases e; exact ⟨_, hK', rfl⟩)
        refine ⟨.bool true, ?_, rfl, ?_⟩
        · simp [results, Try.f34, go_sem, hc5]
        · exact (HFF.out.wide (Fr.setCell wo ⟨w.heap.size + 1, 0, none⟩ (.bool true)) (fun i hi => .inr (by dsimp only at hi; omega))).wide (Fr.of_grownBy (grownBy_putObj' _ D (.deferred none))) (fun i hi => .inr (by cases hi; exact hwD))
  case stop =>
    rintro D c pre V _ _ h _
    exact h.elim
end Go.Proofs.Ytkecipdonamjaaa
