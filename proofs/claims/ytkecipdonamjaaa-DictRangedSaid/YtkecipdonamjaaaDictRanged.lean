/- DictRanged: what is changed while a dict is ranged over is not seen; what can be ranged over may be ranged over again. No condition. -/
import Derived.Test.YtkecipdonamjaaaRanged
import Derived.Sort.CutIn
import Derived.Maps.OwnIn
namespace Go.Proofs.Ytkecipdonamjaaa
open Go.ChangeShapes Go.WideShapes Go.ChangeAt Go.RowKit Go.Shelf Di
attribute [local go_sem] Oper.semAt_some
theorem func_nilR (b : Nat) (w : World) : (binOp .eql 58 (.func (.func 67) #[] #[.pointer (some ⟨b, 0, none⟩)]) .nilFunc).run Try.prog w = .ok (.bool false) w := by kernel_rfl
/-- append, inside a fence, from whatever slice that reads 'news' -/
theorem wpLIn_append {F : Fence} {nF : Nat} {P : Program} {w : World} {ops : Array Oper} {rest : List Oper} {o : Oper} {a : Act} {Q : Exit → Act → World → Prop} (hgd : o.guard = none) (s x : Operand) (t : TypeId) (ho : o.op = .call { callee := .builtin .append, args := #[s, x], argTypes := #[t, t] })
    (base : Nat) (e : TypeId) (i : TypeInfo) (z : Value) (size bytes : Nat) (ht : P.underlying t = some (.slice e)) (hi : P.info? e = some i) (hz : i.zero = some z)
    (hsize : i.size = size) (hby : i.bytes = bytes) (hzs : z.cells.size = size) (hsz : 0 < size)
    (v : Value) (n : Nat) (xs : List Value) (hs : a.eval s = v) (hown : w.ownsRow base e size v n xs)
    (xv : Value) (m : Nat) (news : List Value) (hx : a.eval x = xv) (hrd : RdC w size xv m news) (h1 : ∀ u ∈ news, u.oneCell' = true)
    (h63 : n + m ≤ maxLen) (hbytes : (n + m) * bytes ≤ 140737488355328) (hbase : base ≤ w.heap.size)
    (h : ∀ v' w', w'.ownsRow base e size v' (n + m) (xs ++ news) → w.grownBy w' v.ownBlock → (∀ g, v'.ownBlock = some g → v.ownBlock = some g ∨ w.heap.size ≤ g) → wpListIn F nF P ops Q rest (a.put o.dst v') w') : wpListIn F nF P ops Q (o :: rest) a w := by
  obtain ⟨hl, ad, cap, hxv, hmc, hcm, hnil, hcells⟩ := hrd
  cases ad with
  | some ad =>
    exact wpListIn_append_own_at _ hgd s x t ho base e i z size bytes ht hi hz hsize hby hzs hsz v n xs hs hown ad m cap news (hx.trans hxv) hl (hcells ad rfl) h1 h63 hbytes hbase fun v' w' h2 h3 _ h5 => h v' w' h2 h3 (fun g hg => h5.elim (fun e => .inl (e.symm.trans hg)) (fun e => .inr (by rw [e] at hg; cases hg; exact Nat.le_refl _)))
  | none =>
    obtain ⟨rfl, rfl⟩ := hnil rfl
    have hn0 : news = [] := by simpa using hl
    subst hn0
    refine wpListIn_plain hgd fun K hK => ?_
    have hrun := run_append_owned_none (P := P) (w := w) (base := base) t o.type e i size ht hi v n xs hown
    have hg := h v w (by simpa using hown) ⟨rfl, rfl, rfl, Nat.le_refl _, fun _ _ _ => rfl⟩ (fun g hg => .inl hg)
    have he : a.eval x = .slice none 0 0 := hx.trans hxv
    unfold Oper.wpIn
    refine ⟨by simp [Oper.about, ho, resolve, Target.leads, Sem.run_pure], ?_⟩
    rw [Oper.semAt_plain F _ _ (by rw [ho]; intro c hc'; cases hc')]
    simp [execOp, ho, resolve, invoke, builtin, hs, he, hrun, Result.andThen]
    exact hK _ _ hg
def IsFW (fr : Act) (wd : World) (a : Act) (w : World) : Prop := a = fr ∧ w = wd
theorem IsFW.mk (a : Act) (w : World) : IsFW a w a w := ⟨rfl, rfl⟩
theorem with_tail {F : Fence} {n : Nat} {P : Program} {md : Region.Mode} {ops : Array Oper} {Q : Exit → Act → World → Prop} {fuel : Nat} {listed : Array Bool} {a : Act} {w : World} {T : Act → World → Prop} {r : Nat} {LT : Array Bool}
    (paths : (∀ a w, T a w → wpAnyIn F n P md ops Q r LT a w) → wpAnyIn F n P md ops Q fuel listed a w) (tail : ∀ a w, T a w → wpAnyIn F n P md ops Q r LT a w) : wpAnyIn F n P md ops Q fuel listed a w := paths tail
set_option maxRecDepth 100000 in
set_option maxHeartbeats 8000000 in
theorem dictRanged_walk (w : World) (x0 : UInt64) (v1 : Value) (l : List SpB) (hr : RdC w 6 v1 l.length (l.flatMap spb)) (hby : l.length * 56 ≤ reachBytes) (v2 : Value) (l2 : List SpB) (hr2 : RdC w 6 v2 l2.length (l2.flatMap spb)) (hby2 : l2.length * 56 ≤ reachBytes) :
    Calls Try.prog 11 #[.int .u64 (wd x0), v1, v2] w fun e w' => e = .returned (.bool true) ∧ Below w.heap.size w w' := by
  unfold reachBytes at hby hby2
  refine (callsIn_wide (n := 8)).1 ?_
  have HR := Lib.hid hr
  have HR2 := Lib.hid hr2
  obtain ⟨-, a1, c1, rfl, -⟩ := hr
  obtain ⟨-, a2, c2, rfl, -⟩ := hr2
  refine callsIn_of_wp_marks Try.func11 rfl trivial ?_ rfl
  simp only [Try.ntmps11, List.size_toArray, List.length_cons, List.length_nil, Nat.reduceAdd, Nat.reduceSub, Array.replicate_succ, Array.replicate_zero, List.push_toArray, List.append_toArray, List.nil_append, List.cons_append]
  gi_wp2_with fail
  refine ⟨trivial, (callsIn_wide.2 (wakes_any _)).mono ?_⟩
  rintro e w1 ⟨rfl, hb1⟩
  have k5 : Boxed w1 w.heap.size 27 (.slice a2 l2.length c2) := (hb1.block _ (by simp; omega)).trans ((Boxed.new w _ _).alloc _)
  have k6 : Boxed w1 (w.heap.size + 1) 4 (.bool false) := (hb1.block _ (by simp)).trans (by have := Boxed.new (w.alloc (.cells #[.slice a2 l2.length c2] 27)) 4 (.bool false); rwa [World.size_alloc] at this)
  have hs1 := hb1.size
  simp only [World.size_alloc] at hs1
  have hB1 : Below w.heap.size w w1 := (((Below.refl _ w).alloc (Nat.le_refl _) _).alloc (by simp) _).trans (hb1.mono (by simp; omega))
  have HB1 := Lib.hid hB1
  have HK5 := Lib.hid k5
  have HK6 := Lib.hid k6
  clear hb1 hB1 k5 k6
  gi_wp2_with fail
  refine ⟨trivial, (callsIn_wide.2 (new_like _ x0 _ rfl)).mono ?_⟩
  rintro e w2 ⟨d, M0, rfl, D0, L0, sd0, -, -, -, HB0, hb2⟩
  have hs2 := hb2.size
  obtain ⟨p, hp⟩ : ∃ p, w2.heap.size = p := ⟨_, rfl⟩
  obtain ⟨W3, hW3⟩ : ∃ W, (w2.alloc (.cells #[.pointer (some ⟨d, 0, none⟩)] 29)).alloc (.cells #[.slice none 0 0] 39) = W := ⟨_, rfl⟩
  have HRG : Hid (Rg w p (.slice a2 l2.length c2) (.slice none 0 0) d M0 [] W3) := by
    have f3 : Fr (fun _ => False) w2 W3 := by rw [← hW3]; exact (Fr.alloc _ _ _).thenAlloc _
    have f2 : Fr (fun _ => False) w1 w2 := fr_blw hb2
    have D3 : DAt W3 d M0 := D0.fr f3 (fun _ _ h => h)
    refine ⟨(f3.block _ (by have := HK5.out.lt; omega) (fun h => h)).trans ((f2.block _ HK5.out.lt (fun h => h)).trans HK5.out), (f3.block _ (by have := HK6.out.lt; omega) (fun h => h)).trans ((f2.block _ HK6.out.lt (fun h => h)).trans HK6.out), ?_, ?_,
      ⟨D3, World.ownsRow_nil _ _ _ _, (fun g hg => by cases hg), fun k hk => Nat.le_trans HB1.out.size (HB0.out k hk), ?_⟩, L0, ?_, by omega⟩
    · rw [← hp, ← hW3]; exact (Boxed.new w2 _ _).alloc _
    · have := Boxed.new (w2.alloc (.cells #[.pointer (some ⟨d, 0, none⟩)] 29)) 39 (.slice none 0 0)
      rw [World.size_alloc, hp, hW3] at this
      exact this
    · have := f3.size; omega
    · exact HB1.out.trans ((hb2.mono HB1.out.size).trans (f3.below (by omega) (fun _ h => h.elim)))
  clear D0 L0 sd0 HB0 hb2 hs1 hs2 HB1 HK5 HK6
  gi_wp2_with fail
  clear hp hW3
  gi_loopw [32] (fun i wr => ∃ (k : Nat) (M : DM) (L : Pl) (vl : Value), i = .int .i64 k ∧ k ≤ l.length ∧ L.length ≤ k ∧ Hid (Rg w p (.slice a2 l2.length c2) vl d M L wr)) (fun i _ => l.length - (intOf i).toNat)
  case atStart => exact ⟨0, M0, [], .slice none 0 0, rfl, by omega, by simp, HRG⟩
  case round =>
    obtain ⟨k, M, L, vl, rfl, hk, hLk, HG⟩ := hrel
    obtain ⟨wo, rfl⟩ : ∃ x, x = wr := ⟨_, rfl⟩
    clear HRG
    by_cases hlt : k < l.length
    · obtain ⟨g, off, rfl, d0, d1, d2, d3, d4, d5⟩ := sp_at (HR.out.below HG.out.bel) k hlt
      obtain ⟨o, ho⟩ : ∃ o, l[k].1 = o := ⟨_, rfl⟩
      have hko : o.key.size ≤ maxLen := ho ▸ l[k].2
      rw [ho] at d0 d1 d2 d3 d4 d5
      clear ho
      have e7 := HG.out.b7.cell
      have e8 := HG.out.b8.cell
      have z7 := HG.out.b7.lt
      have z8 := HG.out.b8.lt
      have hb0i : (0 : Int) ≤ (k : Int) := by omega
      have hb1i : (k : Int) < (l.length : Int) := by omega
      gi_wp2_with fail
      obtain ⟨V1, hV1⟩ : ∃ V1, wo.alloc (.cells #[.int .i64 o.who, .int .i64 o.do_, .int .i64 o.n, .int .i64 o.v, .string o.key, .int .u64 (wd o.r)] 32) = V1 := ⟨_, rfl⟩
      have hf1 : Fr (fun _ => False) wo V1 := by rw [← hV1]; exact Fr.alloc _ _ _
      rw [hV1]
      refine ⟨trivial, (callsIn_wide.2 (does_any2 V1 d M L vl o w.heap.size HG.out.like (by omega) hko (HG.out.quiet hf1).pr)).mono ?_⟩
      rintro e w4 ⟨v', M', rfl, P4, L4, -, -, -, -, -, fr, -⟩
      obtain ⟨q1, -, q3, q4⟩ := HG.out.step hf1 P4 L4 fr
      obtain ⟨va, vc, rfl⟩ := rowE_slice P4.row
      have hLk' : (doesL o L).length ≤ k + 1 := Nat.le_trans (doesL_len o L) (by omega)
      have Q1 := Lib.hid q1
      clear hf1 hV1 P4 L4 fr q1 e7 e8 z7 z8 d0 d1 d2 d3 d4 d5
      gi_wp2_with fail
      go_roundw
      case rel => exact ⟨k + 1, M', doesL o L, _, by go_num, by omega, hLk', Q1⟩
      case measure => simp [intOf]; omega
    · obtain rfl : k = l.length := by omega
      obtain ⟨va, vc, rfl⟩ := rowE_slice HG.out.pr.row
      obtain ⟨K, hK⟩ : ∃ K, L.length = K := ⟨_, rfl⟩
      have hKl : K ≤ 2513169434900 := by omega
      obtain ⟨i0, hi, hz0, hz1, hz2⟩ := info_parts infoEn
      have HI := Lib.hid hi
      have HZ0 := Lib.hid hz0
      have HZ1 := Lib.hid hz1
      have HZ2 := Lib.hid hz2
      obtain ⟨cs, hcs, hmk⟩ : ∃ cs : Array Value, cs.size = K * 2 ∧ ∀ w : World, (Instr.makeSlice 39 (.int .i64 0) (.int .i64 K)).run Try.prog w = .ok (.slice (some ⟨w.heap.size, 0, none⟩) 0 K) (w.alloc (.cells cs 54)) := by
        refine ⟨madeCells (Value.agg #[.string ⟨#[]⟩, .int .i64 0]).cells (K * i0.size), by rw [size_madeCells, hz1], fun w => ?_⟩
        exact run_make (P := Try.prog) (w := w) 39 54 i0 (.agg #[.string ⟨#[]⟩, .int .i64 0]) Try.underlying39 hi hz0 .i64 .i64 0 K (by omega) (by omega) (by rw [hz2]; omega) (by omega)
      have e8 := HG.out.b8.cell
      have z8 := HG.out.b8.lt
      have z7 := HG.out.b7.lt
      rw [hK] at e8
      have HKK := Lib.hid hK
      have HSZ : Hid (w.heap.size ≤ wo.heap.size) := HG.out.bel.size
      have HROW0 : Hid ((wo.alloc (.cells cs 54)).ownsRow w.heap.size 54 2 (.slice (some ⟨wo.heap.size, 0, none⟩) 0 K) 0 []) := World.ownsRow_made wo cs K HG.out.bel.size (by unfold maxLen; omega) hcs
      have HSRC : Hid (RdC wo 2 (.slice va K vc) K (L.flatMap enCells)) := by have h := RdC.of_owns HG.out.pr.row; rw [hK] at h; exact h
      have hone : ∀ u ∈ L.flatMap enCells, u.oneCell' = true := by
        intro u hu
        obtain ⟨x, _, hx⟩ := List.mem_flatMap.1 hu
        rcases List.mem_cons.1 hx with rfl | hx
        · rfl
        · rw [List.mem_singleton.1 hx]; rfl
      have HONE := Lib.hid hone
      clear hi hz0 hz1 hz2 hcs hK hone
      gi_wp2_with (gi_at_builtin; refine wpLIn_append rfl (.tmp 50) (.tmp 51) 39 rfl w.heap.size 54 i0 (.agg #[.string ⟨#[]⟩, .int .i64 0]) 2 24 Try.underlying39 HI.out HZ0.out HZ1.out HZ2.out rfl (by decide) _ 0 [] rfl (HROW0.out.alloc _) _ K (L.flatMap enCells) rfl (HSRC.out.below (((Below.refl _ _).alloc (Nat.le_refl _) _).alloc (by simp) _)) HONE.out (by unfold maxLen; omega) (by omega) (by have := HSZ.out; (try simp); (try omega)) ?_; intro v' w5 hown hgrow hap; rw [Nat.zero_add, List.nil_append] at hown; obtain ⟨va', vc', rfl⟩ := owns_slice hown; have HO := Lib.hid hown; have HGR := Lib.hid hgrow; have HAP := Lib.hid hap; obtain ⟨hf5, hk13⟩ := was_facts hgrow; have HF5 := Lib.hid hf5; have hp7 := (HG.out.quiet hf5).b7.cell; have HK13 := Lib.hid hk13; have hc13 := hk13.cell; have hf13 := hk13.frozen; clear hown hgrow hap hk13 hf5)
      have hsz5 := HF5.out.size
      have hlt13 := HK13.out.lt
      obtain ⟨W6, hW6⟩ : ∃ W, w5.setCell ⟨wo.heap.size + 1, 0, none⟩ (.slice va' K vc') = W := ⟨_, rfl⟩
      have hf56 : Fr (fun k => k = wo.heap.size + 1) w5 W6 := by rw [← hW6]; exact Fr.setCell w5 ⟨wo.heap.size + 1, 0, none⟩ _
      have b13 : Boxed W6 (wo.heap.size + 1) 39 (.slice va' K vc') := by rw [← hW6]; exact HK13.out.set (Value.slice va' K vc')
      have r13 : W6.ownsRow w.heap.size 54 2 (.slice va' K vc') K (L.flatMap enCells) := owns_fr HO.out hf56 (fun g hg e => HK13.out.not_row (by decide) HO.out (by rw [← e]; exact hg.symm))
      have f6 : Fr (fun _ => False) wo W6 := HF5.out.wide hf56 (fun i hi => .inr (by omega))
      have hs6 : W6.heap.size = w5.heap.size := by rw [← hW6]; simp
      have HB13 := Lib.hid b13
      have HR13 := Lib.hid r13
      have HF6 := Lib.hid f6
      have HW6 := Lib.hid hW6
      clear hW6 hf56 b13 r13 f6 hmk hc13 hf13 hp7 e8
      gi_wp2_with fail
      rw [HW6.out]
      refine ⟨trivial, (each_in _ 7 trivial rfl _ _).mono ?_⟩
      rintro e w' ⟨rfl, rfl⟩
      obtain ⟨b, hb⟩ : ∃ b, W6.heap.size = b := ⟨_, rfl⟩
      have hfn := fun b w => func_nilR b w
      gi_wp2_with fail
      clear hfn hb b
      have bE := Boxed.new W6 29 (.pointer (some ⟨d, 0, none⟩))
      have b15 := Boxed.new (W6.alloc (.cells #[.pointer (some ⟨d, 0, none⟩)] 29)) 39 (.slice none 0 0)
      rw [World.size_alloc] at b15
      obtain ⟨W8, hW8⟩ : ∃ W, (W6.alloc (.cells #[.pointer (some ⟨d, 0, none⟩)] 29)).alloc (.cells #[.slice none 0 0] 39) = W := ⟨_, rfl⟩
      have f68 : Fr (fun _ => False) W6 W8 := by rw [← hW8]; exact (Fr.alloc _ _ _).thenAlloc _
      have hRz : Rz w p (wo.heap.size + 1) w5.heap.size (w5.heap.size + 1) (.slice a2 l2.length c2) (.slice va L.length vc) (.slice va' K vc') (.slice none 0 0) d M L L [] W8 := by
        rw [hs6] at bE b15
        have f8 : Fr (fun _ => False) wo W8 := HF6.out.wide f68 (fun _ h => h.elim)
        refine ⟨HG.out.quiet f8, (f68.block _ HB13.out.lt (fun h => h)).trans HB13.out, by rw [HKK.out]; exact owns_fr HR13.out f68 (fun _ _ h => h), by rw [← hW8]; exact bE.alloc _, by rw [← hW8]; exact b15, World.ownsRow_nil _ _ _ _, fun g hg => ⟨fun e => ?_, (fun e => by cases e)⟩, (fun g _ e => by cases e), by omega, by omega, by omega⟩
        have h1 := (HG.out.pr.row.lt g hg).2
        have h2 := HAP.out g e
        rcases h2 with h2 | h2
        · have : wo.heap.size = g := Option.some.inj h2
          omega
        · simp at h2; omega
      have hs8 : w5.heap.size + 2 = W8.heap.size := by rw [← hW8]; simp; omega
      have HRZ := Lib.hid hRz
      have HS8 := Lib.hid hs8
      have HAl : Hid (Al d w5.heap.size M W8) := ⟨hRz.pr.dat, hRz.bE⟩
      have HN : Hid ((opn M).flatten.length = K) := by have := each_len HG.out.like; rw [HKK.out] at this; exact this
      have HLK := Lib.hid HG.out.like
      rw [hW8]
      clear hW8 f68 bE b15 hRz hs8 HO HGR HAP HROW0 HSRC HF5 HF6 HB13 HR13 HK13
      refine wpIn_rangeV rfl (by decide) (gf := 67) (lb := #[.pointer (some ⟨w5.heap.size, 0, none⟩)]) rfl trivial (enters_of Try.func67 (by kernel_rfl) rfl)
        (each_stops _ (8 - 1) trivial trivial trivial rfl (by decide) w5.heap.size d M W8.heap.size W8 (Nat.le_refl _) HAl.out (each_val HLK.out) (by rw [HLK.out.count, HKK.out]; omega))
        (fun _ _ _ h k => h.trans k) (fun V l r r' _ h => EachK.loop _ V l r r' h) (Below.refl _ _) (fun _ => rfl)
        (fun pre V => ∃ vl M' L' vs, Rz w p (wo.heap.size + 1) w5.heap.size (w5.heap.size + 1) (.slice a2 l2.length c2) vl (.slice va' K vc') vs d M' L' L (pre.map toEn) V ∧ L'.length ≤ K + pre.length)
        (fun _ _ _ => False)
        ?own (fun _ _ _ _ _ hs _ _ => hs) ⟨_, _, _, _, HRZ.out, by rw [HKK.out]; exact Nat.le_refl _⟩
        (fun x => { tmps := #[.int .u64 (wd x0), .slice a1 l.length c1, .slice a2 l2.length c2, undef, undef, .pointer (some ⟨w.heap.size, 0, none⟩), .pointer (some ⟨w.heap.size + 1, 0, none⟩), .pointer (some ⟨p, 0, none⟩), .pointer (some ⟨p + 1, 0, none⟩), undef, u10, u11, u12, .pointer (some ⟨wo.heap.size + 1, 0, none⟩), .func (.func 67) #[] #[.pointer (some ⟨w5.heap.size, 0, none⟩)], .pointer (some ⟨w5.heap.size + 1, 0, none⟩), .string x.key, x.val.head?.getD undef, undef, undef, undef, undef, undef, undef, undef, undef, .bool true, .bool false, .int .u64 (wd x0), .pointer (some ⟨d, 0, none⟩), .slice a1 l.length c1, .int .i64 l.length, .int .i64 l.length, .bool false, u34, u35, u36, u37, u38, u39, u40, u41, u42, u43, u44, u45, u46, .slice va K vc, .int .i64 K, .slice (some ⟨wo.heap.size, 0, none⟩) 0 K, .slice (some ⟨wo.heap.size, 0, none⟩) 0 K, .slice va K vc, .slice va' K vc', .pointer (some ⟨d, 0, none⟩), .func (.func 67) #[] #[.pointer (some ⟨w5.heap.size, 0, none⟩)], .func (.func 67) #[] #[.pointer (some ⟨w5.heap.size, 0, none⟩)], .bool false, .func (.func 67) #[] #[.pointer (some ⟨w5.heap.size, 0, none⟩)], .string x.key, x.val.head?.getD undef, undef, undef, undef, undef, undef, undef, undef, undef, undef, undef, undef, undef, undef, undef, undef, undef, undef, undef, undef, undef, undef, undef, undef, undef, undef, undef, undef, undef, undef, undef, undef, undef, undef, undef, undef, undef, undef, undef, undef, undef, undef, undef, undef, undef, undef, undef, undef, undef, undef, undef, undef, undef, undef, undef, undef, undef, undef, undef, undef, undef, undef, undef, undef, undef, undef, undef, undef, undef, undef, undef, undef, undef, undef, undef, undef, undef], defers := [] }) ?assign ?body ?done ?stop
      case own =>
        rintro pre A B row ⟨vl, M', L', vs, hz, hl⟩ hg hr
        exact ⟨vl, M', L', vs, hz.turn hg fun r e => ⟨by have := (hr r e).1; have := HS8.out; have := hz.lo; have := hz.n1; have := hz.n2; omega, (hr r e).2⟩, hl⟩
      case assign =>
        intro lr x V Q hQ
        unfold etE
        gi_wp2
        exact hQ
      case body =>
        rintro lr pre x V ⟨vl, M', L', vs, hz, hll⟩ hv
        have hx : x ∈ (opn M).flatten := hv.subset (by simp)
        obtain ⟨xx, hxv⟩ := each_val HLK.out x hx
        have hen : Hid (toEn x = (x.key, xx)) := by show _ = _; unfold toEn valI; rw [hxv]
        have hlen : (pre ++ [x]).length ≤ K := by rw [← HN.out]; exact hv.length_le
        rw [List.length_append] at hlen
        have hpl : pre.length + 1 ≤ K := hlen
        have hval : x.val.head?.getD undef = .int .i64 xx := by rw [hxv]; rfl
        have hrow := hz.r15
        rw [List.length_map] at hrow
        obtain ⟨sa, sc, rfl⟩ := owns_slice hrow
        have HZ := Lib.hid hz
        have hc15 := hz.b15.cell
        have hc5 := hz.b5.cell
        have hc7 := hz.b7.cell
        have hc8 := hz.b8.cell
        dsimp only
        rw [hval]
        obtain ⟨J, hJ⟩ : ∃ k, pre.length = k := ⟨_, rfl⟩
        rw [hJ] at hpl hc15 HZ hll
        have HJ := Lib.hid hJ
        clear hz hx hxv hlen hval hrow hJ hv
        gi_upto_if 64 with (fail)
        gi_cut [18] from 18 (fun _ wc => Hid (∃ vl M2 L2, Rz w p (wo.heap.size + 1) w5.heap.size (w5.heap.size + 1) (.slice a2 l2.length c2) vl (.slice va' K vc') (.slice sa J sc) d M2 L2 L (pre.map toEn) wc ∧ L2.length ≤ K + J + 1 ∧ KeepsOthers V wc ∧ EachK W8.heap.size V wc))
        case first =>
          by_cases hj2 : J < l2.length
          · have g1 : decide ((J : Int) < (l2.length : Int)) = true := by rw [decide_eq_true_eq]; omega
            obtain ⟨g2, o2, rfl, d0, d1, d2, d3, d4, d5⟩ := sp_at (HR2.out.below HZ.out.bel) J hj2
            obtain ⟨o, ho⟩ : ∃ o, l2[J].1 = o := ⟨_, rfl⟩
            have hko : o.key.size ≤ maxLen := ho ▸ l2[J].2
            rw [ho] at d0 d1 d2 d3 d4 d5
            have hfd : Fr (fun _ => False) V V.drew := Fr.drew _ _
            have HDOES := Lib.hid (does_any2 V.drew d M' L' vl o w.heap.size HZ.out.like (by omega) hko (HZ.out.quiet hfd).pr)
            have hb0i : (0 : Int) ≤ (J : Int) := by omega
            have hb1i : (J : Int) < (l2.length : Int) := by omega
            clear ho hfd
            gi_wp2_with fail
            refine wpIn_region_round rfl lr (by decide +kernel) (by kernel_rfl) ?_
            change wpAnyIn _ _ _ _ _ _ _ _ _ (World.drew _)
            apply with_tail (T := IsFW _ V.drew) (r := 6) (LT := #[true, true, true, true, true, true, true, false, false, false, false, false, false])
            case paths =>
              intro htail
              -- REGION23 BEGIN
              refine wpAnyIn_ready (rs := [0, 1, 2, 3]) (by decide +kernel) (by simp) (AllReadyIn.cons rfl (fun K hK => ?_) (AllReadyIn.cons rfl (fun K hK => ?_) (AllReadyIn.cons rfl (fun K hK => ?_) (AllReadyIn.cons rfl (fun K hK => ?_) AllReadyIn.nil))))
              ·
                go_simp; refine hK _ _ ?_; clear hK K
                refine wpAnyIn_ready (rs := [1, 2, 3]) (by decide +kernel) (by simp) (AllReadyIn.cons rfl (fun K hK => ?_) (AllReadyIn.cons rfl (fun K hK => ?_) (AllReadyIn.cons rfl (fun K hK => ?_) AllReadyIn.nil)))
                ·
                  go_simp; refine hK _ _ ?_; clear hK K
                  refine wpAnyIn_ready (rs := [2, 3]) (by decide +kernel) (by simp) (AllReadyIn.cons rfl (fun K hK => ?_) (AllReadyIn.cons rfl (fun K hK => ?_) AllReadyIn.nil))
                  ·
                    go_simp; refine hK _ _ ?_; clear hK K
                    refine wpAnyIn_ready (rs := [3]) (by decide +kernel) (by simp) (AllReadyIn.cons rfl (fun K hK => ?_) AllReadyIn.nil)
                    go_simp; refine hK _ _ ?_; clear hK K
                    refine wpAnyIn_take (i := 4) (v := .int .i64 J) rfl rfl (by decide +kernel) (by decide +kernel) (by decide +kernel) (fun _ _ _ h => h) ⟨Or.inl ⟨by rfl, ?_⟩, fun _ => rfl⟩ ?_
                    · (intro w; go_simp; done)
                    refine wpAnyIn_take (i := 5) (v := .pointer (some ⟨g2, o2 + J * 6, none⟩)) rfl rfl (by decide +kernel) (by decide +kernel) (by decide +kernel) (fun _ _ _ h => h) ⟨Or.inl ⟨by rfl, ?_⟩, fun _ => rfl⟩ ?_
                    · (intro w; go_simp; done)
                    refine wpAnyIn_ready (rs := [6]) (by decide +kernel) (by simp) (AllReadyIn.cons rfl (fun K hK => ?_) AllReadyIn.nil)
                    go_simp; refine hK _ _ ?_; clear hK K
                    exact htail _ _ (IsFW.mk _ _)
                  ·
                    go_simp; refine hK _ _ ?_; clear hK K
                    refine wpAnyIn_take (i := 4) (v := .int .i64 J) rfl rfl (by decide +kernel) (by decide +kernel) (by decide +kernel) (fun _ _ _ h => h) ⟨Or.inl ⟨by rfl, ?_⟩, fun _ => rfl⟩ ?_
                    · (intro w; go_simp; done)
                    refine wpAnyIn_ready (rs := [2]) (by decide +kernel) (by simp) (AllReadyIn.cons rfl (fun K hK => ?_) AllReadyIn.nil)
                    go_simp; refine hK _ _ ?_; clear hK K
                    refine wpAnyIn_take (i := 5) (v := .pointer (some ⟨g2, o2 + J * 6, none⟩)) rfl rfl (by decide +kernel) (by decide +kernel) (by decide +kernel) (fun _ _ _ h => h) ⟨Or.inl ⟨by rfl, ?_⟩, fun _ => rfl⟩ ?_
                    · (intro w; go_simp; done)
                    refine wpAnyIn_ready (rs := [6]) (by decide +kernel) (by simp) (AllReadyIn.cons rfl (fun K hK => ?_) AllReadyIn.nil)
                    go_simp; refine hK _ _ ?_; clear hK K
                    exact htail _ _ (IsFW.mk _ _)
                ·
                  go_simp; refine hK _ _ ?_; clear hK K
                  refine wpAnyIn_ready (rs := [1, 3]) (by decide +kernel) (by simp) (AllReadyIn.cons rfl (fun K hK => ?_) (AllReadyIn.cons rfl (fun K hK => ?_) AllReadyIn.nil))
                  ·
                    go_simp; refine hK _ _ ?_; clear hK K
                    refine wpAnyIn_ready (rs := [3]) (by decide +kernel) (by simp) (AllReadyIn.cons rfl (fun K hK => ?_) AllReadyIn.nil)
                    go_simp; refine hK _ _ ?_; clear hK K
                    refine wpAnyIn_take (i := 4) (v := .int .i64 J) rfl rfl (by decide +kernel) (by decide +kernel) (by decide +kernel) (fun _ _ _ h => h) ⟨Or.inl ⟨by rfl, ?_⟩, fun _ => rfl⟩ ?_
                    · (intro w; go_simp; done)
                    refine wpAnyIn_take (i := 5) (v := .pointer (some ⟨g2, o2 + J * 6, none⟩)) rfl rfl (by decide +kernel) (by decide +kernel) (by decide +kernel) (fun _ _ _ h => h) ⟨Or.inl ⟨by rfl, ?_⟩, fun _ => rfl⟩ ?_
                    · (intro w; go_simp; done)
                    refine wpAnyIn_ready (rs := [6]) (by decide +kernel) (by simp) (AllReadyIn.cons rfl (fun K hK => ?_) AllReadyIn.nil)
                    go_simp; refine hK _ _ ?_; clear hK K
                    exact htail _ _ (IsFW.mk _ _)
                  ·
                    go_simp; refine hK _ _ ?_; clear hK K
                    refine wpAnyIn_take (i := 4) (v := .int .i64 J) rfl rfl (by decide +kernel) (by decide +kernel) (by decide +kernel) (fun _ _ _ h => h) ⟨Or.inl ⟨by rfl, ?_⟩, fun _ => rfl⟩ ?_
                    · (intro w; go_simp; done)
                    refine wpAnyIn_take (i := 5) (v := .pointer (some ⟨g2, o2 + J * 6, none⟩)) rfl rfl (by decide +kernel) (by decide +kernel) (by decide +kernel) (fun _ _ _ h => h) ⟨Or.inl ⟨by rfl, ?_⟩, fun _ => rfl⟩ ?_
                    · (intro w; go_simp; done)
                    refine wpAnyIn_ready (rs := [1, 6]) (by decide +kernel) (by simp) (AllReadyIn.cons rfl (fun K hK => ?_) (AllReadyIn.cons rfl (fun K hK => ?_) AllReadyIn.nil))
                    ·
                      go_simp; refine hK _ _ ?_; clear hK K
                      refine wpAnyIn_ready (rs := [6]) (by decide +kernel) (by simp) (AllReadyIn.cons rfl (fun K hK => ?_) AllReadyIn.nil)
                      go_simp; refine hK _ _ ?_; clear hK K
                      exact htail _ _ (IsFW.mk _ _)
                    ·
                      go_simp; refine hK _ _ ?_; clear hK K
                      refine wpAnyIn_ready (rs := [1]) (by decide +kernel) (by simp) (AllReadyIn.cons rfl (fun K hK => ?_) AllReadyIn.nil)
                      go_simp; refine hK _ _ ?_; clear hK K
                      exact htail _ _ (IsFW.mk _ _)
                ·
                  go_simp; refine hK _ _ ?_; clear hK K
                  refine wpAnyIn_take (i := 4) (v := .int .i64 J) rfl rfl (by decide +kernel) (by decide +kernel) (by decide +kernel) (fun _ _ _ h => h) ⟨Or.inl ⟨by rfl, ?_⟩, fun _ => rfl⟩ ?_
                  · (intro w; go_simp; done)
                  refine wpAnyIn_ready (rs := [1, 2]) (by decide +kernel) (by simp) (AllReadyIn.cons rfl (fun K hK => ?_) (AllReadyIn.cons rfl (fun K hK => ?_) AllReadyIn.nil))
                  ·
                    go_simp; refine hK _ _ ?_; clear hK K
                    refine wpAnyIn_ready (rs := [2]) (by decide +kernel) (by simp) (AllReadyIn.cons rfl (fun K hK => ?_) AllReadyIn.nil)
                    go_simp; refine hK _ _ ?_; clear hK K
                    refine wpAnyIn_take (i := 5) (v := .pointer (some ⟨g2, o2 + J * 6, none⟩)) rfl rfl (by decide +kernel) (by decide +kernel) (by decide +kernel) (fun _ _ _ h => h) ⟨Or.inl ⟨by rfl, ?_⟩, fun _ => rfl⟩ ?_
                    · (intro w; go_simp; done)
                    refine wpAnyIn_ready (rs := [6]) (by decide +kernel) (by simp) (AllReadyIn.cons rfl (fun K hK => ?_) AllReadyIn.nil)
                    go_simp; refine hK _ _ ?_; clear hK K
                    exact htail _ _ (IsFW.mk _ _)
                  ·
                    go_simp; refine hK _ _ ?_; clear hK K
                    refine wpAnyIn_take (i := 5) (v := .pointer (some ⟨g2, o2 + J * 6, none⟩)) rfl rfl (by decide +kernel) (by decide +kernel) (by decide +kernel) (fun _ _ _ h => h) ⟨Or.inl ⟨by rfl, ?_⟩, fun _ => rfl⟩ ?_
                    · (intro w; go_simp; done)
                    refine wpAnyIn_ready (rs := [1, 6]) (by decide +kernel) (by simp) (AllReadyIn.cons rfl (fun K hK => ?_) (AllReadyIn.cons rfl (fun K hK => ?_) AllReadyIn.nil))
                    ·
                      go_simp; refine hK _ _ ?_; clear hK K
                      refine wpAnyIn_ready (rs := [6]) (by decide +kernel) (by simp) (AllReadyIn.cons rfl (fun K hK => ?_) AllReadyIn.nil)
                      go_simp; refine hK _ _ ?_; clear hK K
                      exact htail _ _ (IsFW.mk _ _)
                    ·
                      go_simp; refine hK _ _ ?_; clear hK K
                      refine wpAnyIn_ready (rs := [1]) (by decide +kernel) (by simp) (AllReadyIn.cons rfl (fun K hK => ?_) AllReadyIn.nil)
                      go_simp; refine hK _ _ ?_; clear hK K
                      exact htail _ _ (IsFW.mk _ _)
              ·
                go_simp; refine hK _ _ ?_; clear hK K
                refine wpAnyIn_ready (rs := [0, 2, 3]) (by decide +kernel) (by simp) (AllReadyIn.cons rfl (fun K hK => ?_) (AllReadyIn.cons rfl (fun K hK => ?_) (AllReadyIn.cons rfl (fun K hK => ?_) AllReadyIn.nil)))
                ·
                  go_simp; refine hK _ _ ?_; clear hK K
                  refine wpAnyIn_ready (rs := [2, 3]) (by decide +kernel) (by simp) (AllReadyIn.cons rfl (fun K hK => ?_) (AllReadyIn.cons rfl (fun K hK => ?_) AllReadyIn.nil))
                  ·
                    go_simp; refine hK _ _ ?_; clear hK K
                    refine wpAnyIn_ready (rs := [3]) (by decide +kernel) (by simp) (AllReadyIn.cons rfl (fun K hK => ?_) AllReadyIn.nil)
                    go_simp; refine hK _ _ ?_; clear hK K
                    refine wpAnyIn_take (i := 4) (v := .int .i64 J) rfl rfl (by decide +kernel) (by decide +kernel) (by decide +kernel) (fun _ _ _ h => h) ⟨Or.inl ⟨by rfl, ?_⟩, fun _ => rfl⟩ ?_
                    · (intro w; go_simp; done)
                    refine wpAnyIn_take (i := 5) (v := .pointer (some ⟨g2, o2 + J * 6, none⟩)) rfl rfl (by decide +kernel) (by decide +kernel) (by decide +kernel) (fun _ _ _ h => h) ⟨Or.inl ⟨by rfl, ?_⟩, fun _ => rfl⟩ ?_
                    · (intro w; go_simp; done)
                    refine wpAnyIn_ready (rs := [6]) (by decide +kernel) (by simp) (AllReadyIn.cons rfl (fun K hK => ?_) AllReadyIn.nil)
                    go_simp; refine hK _ _ ?_; clear hK K
                    exact htail _ _ (IsFW.mk _ _)
                  ·
                    go_simp; refine hK _ _ ?_; clear hK K
                    refine wpAnyIn_take (i := 4) (v := .int .i64 J) rfl rfl (by decide +kernel) (by decide +kernel) (by decide +kernel) (fun _ _ _ h => h) ⟨Or.inl ⟨by rfl, ?_⟩, fun _ => rfl⟩ ?_
                    · (intro w; go_simp; done)
                    refine wpAnyIn_ready (rs := [2]) (by decide +kernel) (by simp) (AllReadyIn.cons rfl (fun K hK => ?_) AllReadyIn.nil)
                    go_simp; refine hK _ _ ?_; clear hK K
                    refine wpAnyIn_take (i := 5) (v := .pointer (some ⟨g2, o2 + J * 6, none⟩)) rfl rfl (by decide +kernel) (by decide +kernel) (by decide +kernel) (fun _ _ _ h => h) ⟨Or.inl ⟨by rfl, ?_⟩, fun _ => rfl⟩ ?_
                    · (intro w; go_simp; done)
                    refine wpAnyIn_ready (rs := [6]) (by decide +kernel) (by simp) (AllReadyIn.cons rfl (fun K hK => ?_) AllReadyIn.nil)
                    go_simp; refine hK _ _ ?_; clear hK K
                    exact htail _ _ (IsFW.mk _ _)
                ·
                  go_simp; refine hK _ _ ?_; clear hK K
                  refine wpAnyIn_ready (rs := [0, 3]) (by decide +kernel) (by simp) (AllReadyIn.cons rfl (fun K hK => ?_) (AllReadyIn.cons rfl (fun K hK => ?_) AllReadyIn.nil))
                  ·
                    go_simp; refine hK _ _ ?_; clear hK K
                    refine wpAnyIn_ready (rs := [3]) (by decide +kernel) (by simp) (AllReadyIn.cons rfl (fun K hK => ?_) AllReadyIn.nil)
                    go_simp; refine hK _ _ ?_; clear hK K
                    refine wpAnyIn_take (i := 4) (v := .int .i64 J) rfl rfl (by decide +kernel) (by decide +kernel) (by decide +kernel) (fun _ _ _ h => h) ⟨Or.inl ⟨by rfl, ?_⟩, fun _ => rfl⟩ ?_
                    · (intro w; go_simp; done)
                    refine wpAnyIn_take (i := 5) (v := .pointer (some ⟨g2, o2 + J * 6, none⟩)) rfl rfl (by decide +kernel) (by decide +kernel) (by decide +kernel) (fun _ _ _ h => h) ⟨Or.inl ⟨by rfl, ?_⟩, fun _ => rfl⟩ ?_
                    · (intro w; go_simp; done)
                    refine wpAnyIn_ready (rs := [6]) (by decide +kernel) (by simp) (AllReadyIn.cons rfl (fun K hK => ?_) AllReadyIn.nil)
                    go_simp; refine hK _ _ ?_; clear hK K
                    exact htail _ _ (IsFW.mk _ _)
                  ·
                    go_simp; refine hK _ _ ?_; clear hK K
                    refine wpAnyIn_take (i := 4) (v := .int .i64 J) rfl rfl (by decide +kernel) (by decide +kernel) (by decide +kernel) (fun _ _ _ h => h) ⟨Or.inl ⟨by rfl, ?_⟩, fun _ => rfl⟩ ?_
                    · (intro w; go_simp; done)
                    refine wpAnyIn_take (i := 5) (v := .pointer (some ⟨g2, o2 + J * 6, none⟩)) rfl rfl (by decide +kernel) (by decide +kernel) (by decide +kernel) (fun _ _ _ h => h) ⟨Or.inl ⟨by rfl, ?_⟩, fun _ => rfl⟩ ?_
                    · (intro w; go_simp; done)
                    refine wpAnyIn_ready (rs := [0, 6]) (by decide +kernel) (by simp) (AllReadyIn.cons rfl (fun K hK => ?_) (AllReadyIn.cons rfl (fun K hK => ?_) AllReadyIn.nil))
                    ·
                      go_simp; refine hK _ _ ?_; clear hK K
                      refine wpAnyIn_ready (rs := [6]) (by decide +kernel) (by simp) (AllReadyIn.cons rfl (fun K hK => ?_) AllReadyIn.nil)
                      go_simp; refine hK _ _ ?_; clear hK K
                      exact htail _ _ (IsFW.mk _ _)
                    ·
                      go_simp; refine hK _ _ ?_; clear hK K
                      refine wpAnyIn_ready (rs := [0]) (by decide +kernel) (by simp) (AllReadyIn.cons rfl (fun K hK => ?_) AllReadyIn.nil)
                      go_simp; refine hK _ _ ?_; clear hK K
                      exact htail _ _ (IsFW.mk _ _)
                ·
                  go_simp; refine hK _ _ ?_; clear hK K
                  refine wpAnyIn_take (i := 4) (v := .int .i64 J) rfl rfl (by decide +kernel) (by decide +kernel) (by decide +kernel) (fun _ _ _ h => h) ⟨Or.inl ⟨by rfl, ?_⟩, fun _ => rfl⟩ ?_
                  · (intro w; go_simp; done)
                  refine wpAnyIn_ready (rs := [0, 2]) (by decide +kernel) (by simp) (AllReadyIn.cons rfl (fun K hK => ?_) (AllReadyIn.cons rfl (fun K hK => ?_) AllReadyIn.nil))
                  ·
                    go_simp; refine hK _ _ ?_; clear hK K
                    refine wpAnyIn_ready (rs := [2]) (by decide +kernel) (by simp) (AllReadyIn.cons rfl (fun K hK => ?_) AllReadyIn.nil)
                    go_simp; refine hK _ _ ?_; clear hK K
                    refine wpAnyIn_take (i := 5) (v := .pointer (some ⟨g2, o2 + J * 6, none⟩)) rfl rfl (by decide +kernel) (by decide +kernel) (by decide +kernel) (fun _ _ _ h => h) ⟨Or.inl ⟨by rfl, ?_⟩, fun _ => rfl⟩ ?_
                    · (intro w; go_simp; done)
                    refine wpAnyIn_ready (rs := [6]) (by decide +kernel) (by simp) (AllReadyIn.cons rfl (fun K hK => ?_) AllReadyIn.nil)
                    go_simp; refine hK _ _ ?_; clear hK K
                    exact htail _ _ (IsFW.mk _ _)
                  ·
                    go_simp; refine hK _ _ ?_; clear hK K
                    refine wpAnyIn_take (i := 5) (v := .pointer (some ⟨g2, o2 + J * 6, none⟩)) rfl rfl (by decide +kernel) (by decide +kernel) (by decide +kernel) (fun _ _ _ h => h) ⟨Or.inl ⟨by rfl, ?_⟩, fun _ => rfl⟩ ?_
                    · (intro w; go_simp; done)
                    refine wpAnyIn_ready (rs := [0, 6]) (by decide +kernel) (by simp) (AllReadyIn.cons rfl (fun K hK => ?_) (AllReadyIn.cons rfl (fun K hK => ?_) AllReadyIn.nil))
                    ·
                      go_simp; refine hK _ _ ?_; clear hK K
                      refine wpAnyIn_ready (rs := [6]) (by decide +kernel) (by simp) (AllReadyIn.cons rfl (fun K hK => ?_) AllReadyIn.nil)
                      go_simp; refine hK _ _ ?_; clear hK K
                      exact htail _ _ (IsFW.mk _ _)
                    ·
                      go_simp; refine hK _ _ ?_; clear hK K
                      refine wpAnyIn_ready (rs := [0]) (by decide +kernel) (by simp) (AllReadyIn.cons rfl (fun K hK => ?_) AllReadyIn.nil)
                      go_simp; refine hK _ _ ?_; clear hK K
                      exact htail _ _ (IsFW.mk _ _)
              ·
                go_simp; refine hK _ _ ?_; clear hK K
                refine wpAnyIn_ready (rs := [0, 1, 3]) (by decide +kernel) (by simp) (AllReadyIn.cons rfl (fun K hK => ?_) (AllReadyIn.cons rfl (fun K hK => ?_) (AllReadyIn.cons rfl (fun K hK => ?_) AllReadyIn.nil)))
                ·
                  go_simp; refine hK _ _ ?_; clear hK K
                  refine wpAnyIn_ready (rs := [1, 3]) (by decide +kernel) (by simp) (AllReadyIn.cons rfl (fun K hK => ?_) (AllReadyIn.cons rfl (fun K hK => ?_) AllReadyIn.nil))
                  ·
                    go_simp; refine hK _ _ ?_; clear hK K
                    refine wpAnyIn_ready (rs := [3]) (by decide +kernel) (by simp) (AllReadyIn.cons rfl (fun K hK => ?_) AllReadyIn.nil)
                    go_simp; refine hK _ _ ?_; clear hK K
                    refine wpAnyIn_take (i := 4) (v := .int .i64 J) rfl rfl (by decide +kernel) (by decide +kernel) (by decide +kernel) (fun _ _ _ h => h) ⟨Or.inl ⟨by rfl, ?_⟩, fun _ => rfl⟩ ?_
                    · (intro w; go_simp; done)
                    refine wpAnyIn_take (i := 5) (v := .pointer (some ⟨g2, o2 + J * 6, none⟩)) rfl rfl (by decide +kernel) (by decide +kernel) (by decide +kernel) (fun _ _ _ h => h) ⟨Or.inl ⟨by rfl, ?_⟩, fun _ => rfl⟩ ?_
                    · (intro w; go_simp; done)
                    refine wpAnyIn_ready (rs := [6]) (by decide +kernel) (by simp) (AllReadyIn.cons rfl (fun K hK => ?_) AllReadyIn.nil)
                    go_simp; refine hK _ _ ?_; clear hK K
                    exact htail _ _ (IsFW.mk _ _)
                  ·
                    go_simp; refine hK _ _ ?_; clear hK K
                    refine wpAnyIn_take (i := 4) (v := .int .i64 J) rfl rfl (by decide +kernel) (by decide +kernel) (by decide +kernel) (fun _ _ _ h => h) ⟨Or.inl ⟨by rfl, ?_⟩, fun _ => rfl⟩ ?_
                    · (intro w; go_simp; done)
                    refine wpAnyIn_take (i := 5) (v := .pointer (some ⟨g2, o2 + J * 6, none⟩)) rfl rfl (by decide +kernel) (by decide +kernel) (by decide +kernel) (fun _ _ _ h => h) ⟨Or.inl ⟨by rfl, ?_⟩, fun _ => rfl⟩ ?_
                    · (intro w; go_simp; done)
                    refine wpAnyIn_ready (rs := [1, 6]) (by decide +kernel) (by simp) (AllReadyIn.cons rfl (fun K hK => ?_) (AllReadyIn.cons rfl (fun K hK => ?_) AllReadyIn.nil))
                    ·
                      go_simp; refine hK _ _ ?_; clear hK K
                      refine wpAnyIn_ready (rs := [6]) (by decide +kernel) (by simp) (AllReadyIn.cons rfl (fun K hK => ?_) AllReadyIn.nil)
                      go_simp; refine hK _ _ ?_; clear hK K
                      exact htail _ _ (IsFW.mk _ _)
                    ·
                      go_simp; refine hK _ _ ?_; clear hK K
                      refine wpAnyIn_ready (rs := [1]) (by decide +kernel) (by simp) (AllReadyIn.cons rfl (fun K hK => ?_) AllReadyIn.nil)
                      go_simp; refine hK _ _ ?_; clear hK K
                      exact htail _ _ (IsFW.mk _ _)
                ·
                  go_simp; refine hK _ _ ?_; clear hK K
                  refine wpAnyIn_ready (rs := [0, 3]) (by decide +kernel) (by simp) (AllReadyIn.cons rfl (fun K hK => ?_) (AllReadyIn.cons rfl (fun K hK => ?_) AllReadyIn.nil))
                  ·
                    go_simp; refine hK _ _ ?_; clear hK K
                    refine wpAnyIn_ready (rs := [3]) (by decide +kernel) (by simp) (AllReadyIn.cons rfl (fun K hK => ?_) AllReadyIn.nil)
                    go_simp; refine hK _ _ ?_; clear hK K
                    refine wpAnyIn_take (i := 4) (v := .int .i64 J) rfl rfl (by decide +kernel) (by decide +kernel) (by decide +kernel) (fun _ _ _ h => h) ⟨Or.inl ⟨by rfl, ?_⟩, fun _ => rfl⟩ ?_
                    · (intro w; go_simp; done)
                    refine wpAnyIn_take (i := 5) (v := .pointer (some ⟨g2, o2 + J * 6, none⟩)) rfl rfl (by decide +kernel) (by decide +kernel) (by decide +kernel) (fun _ _ _ h => h) ⟨Or.inl ⟨by rfl, ?_⟩, fun _ => rfl⟩ ?_
                    · (intro w; go_simp; done)
                    refine wpAnyIn_ready (rs := [6]) (by decide +kernel) (by simp) (AllReadyIn.cons rfl (fun K hK => ?_) AllReadyIn.nil)
                    go_simp; refine hK _ _ ?_; clear hK K
                    exact htail _ _ (IsFW.mk _ _)
                  ·
                    go_simp; refine hK _ _ ?_; clear hK K
                    refine wpAnyIn_take (i := 4) (v := .int .i64 J) rfl rfl (by decide +kernel) (by decide +kernel) (by decide +kernel) (fun _ _ _ h => h) ⟨Or.inl ⟨by rfl, ?_⟩, fun _ => rfl⟩ ?_
                    · (intro w; go_simp; done)
                    refine wpAnyIn_take (i := 5) (v := .pointer (some ⟨g2, o2 + J * 6, none⟩)) rfl rfl (by decide +kernel) (by decide +kernel) (by decide +kernel) (fun _ _ _ h => h) ⟨Or.inl ⟨by rfl, ?_⟩, fun _ => rfl⟩ ?_
                    · (intro w; go_simp; done)
                    refine wpAnyIn_ready (rs := [0, 6]) (by decide +kernel) (by simp) (AllReadyIn.cons rfl (fun K hK => ?_) (AllReadyIn.cons rfl (fun K hK => ?_) AllReadyIn.nil))
                    ·
                      go_simp; refine hK _ _ ?_; clear hK K
                      refine wpAnyIn_ready (rs := [6]) (by decide +kernel) (by simp) (AllReadyIn.cons rfl (fun K hK => ?_) AllReadyIn.nil)
                      go_simp; refine hK _ _ ?_; clear hK K
                      exact htail _ _ (IsFW.mk _ _)
                    ·
                      go_simp; refine hK _ _ ?_; clear hK K
                      refine wpAnyIn_ready (rs := [0]) (by decide +kernel) (by simp) (AllReadyIn.cons rfl (fun K hK => ?_) AllReadyIn.nil)
                      go_simp; refine hK _ _ ?_; clear hK K
                      exact htail _ _ (IsFW.mk _ _)
                ·
                  go_simp; refine hK _ _ ?_; clear hK K
                  refine wpAnyIn_take (i := 4) (v := .int .i64 J) rfl rfl (by decide +kernel) (by decide +kernel) (by decide +kernel) (fun _ _ _ h => h) ⟨Or.inl ⟨by rfl, ?_⟩, fun _ => rfl⟩ ?_
                  · (intro w; go_simp; done)
                  refine wpAnyIn_take (i := 5) (v := .pointer (some ⟨g2, o2 + J * 6, none⟩)) rfl rfl (by decide +kernel) (by decide +kernel) (by decide +kernel) (fun _ _ _ h => h) ⟨Or.inl ⟨by rfl, ?_⟩, fun _ => rfl⟩ ?_
                  · (intro w; go_simp; done)
                  refine wpAnyIn_ready (rs := [0, 1, 6]) (by decide +kernel) (by simp) (AllReadyIn.cons rfl (fun K hK => ?_) (AllReadyIn.cons rfl (fun K hK => ?_) (AllReadyIn.cons rfl (fun K hK => ?_) AllReadyIn.nil)))
                  ·
                    go_simp; refine hK _ _ ?_; clear hK K
                    refine wpAnyIn_ready (rs := [1, 6]) (by decide +kernel) (by simp) (AllReadyIn.cons rfl (fun K hK => ?_) (AllReadyIn.cons rfl (fun K hK => ?_) AllReadyIn.nil))
                    ·
                      go_simp; refine hK _ _ ?_; clear hK K
                      refine wpAnyIn_ready (rs := [6]) (by decide +kernel) (by simp) (AllReadyIn.cons rfl (fun K hK => ?_) AllReadyIn.nil)
                      go_simp; refine hK _ _ ?_; clear hK K
                      exact htail _ _ (IsFW.mk _ _)
                    ·
                      go_simp; refine hK _ _ ?_; clear hK K
                      refine wpAnyIn_ready (rs := [1]) (by decide +kernel) (by simp) (AllReadyIn.cons rfl (fun K hK => ?_) AllReadyIn.nil)
                      go_simp; refine hK _ _ ?_; clear hK K
                      exact htail _ _ (IsFW.mk _ _)
                  ·
                    go_simp; refine hK _ _ ?_; clear hK K
                    refine wpAnyIn_ready (rs := [0, 6]) (by decide +kernel) (by simp) (AllReadyIn.cons rfl (fun K hK => ?_) (AllReadyIn.cons rfl (fun K hK => ?_) AllReadyIn.nil))
                    ·
                      go_simp; refine hK _ _ ?_; clear hK K
                      refine wpAnyIn_ready (rs := [6]) (by decide +kernel) (by simp) (AllReadyIn.cons rfl (fun K hK => ?_) AllReadyIn.nil)
                      go_simp; refine hK _ _ ?_; clear hK K
                      exact htail _ _ (IsFW.mk _ _)
                    ·
                      go_simp; refine hK _ _ ?_; clear hK K
                      refine wpAnyIn_ready (rs := [0]) (by decide +kernel) (by simp) (AllReadyIn.cons rfl (fun K hK => ?_) AllReadyIn.nil)
                      go_simp; refine hK _ _ ?_; clear hK K
                      exact htail _ _ (IsFW.mk _ _)
                  ·
                    go_simp; refine hK _ _ ?_; clear hK K
                    refine wpAnyIn_ready (rs := [0, 1]) (by decide +kernel) (by simp) (AllReadyIn.cons rfl (fun K hK => ?_) (AllReadyIn.cons rfl (fun K hK => ?_) AllReadyIn.nil))
                    ·
                      go_simp; refine hK _ _ ?_; clear hK K
                      refine wpAnyIn_ready (rs := [1]) (by decide +kernel) (by simp) (AllReadyIn.cons rfl (fun K hK => ?_) AllReadyIn.nil)
                      go_simp; refine hK _ _ ?_; clear hK K
                      exact htail _ _ (IsFW.mk _ _)
                    ·
                      go_simp; refine hK _ _ ?_; clear hK K
                      refine wpAnyIn_ready (rs := [0]) (by decide +kernel) (by simp) (AllReadyIn.cons rfl (fun K hK => ?_) AllReadyIn.nil)
                      go_simp; refine hK _ _ ?_; clear hK K
                      exact htail _ _ (IsFW.mk _ _)
              ·
                go_simp; refine hK _ _ ?_; clear hK K
                refine wpAnyIn_take (i := 4) (v := .int .i64 J) rfl rfl (by decide +kernel) (by decide +kernel) (by decide +kernel) (fun _ _ _ h => h) ⟨Or.inl ⟨by rfl, ?_⟩, fun _ => rfl⟩ ?_
                · (intro w; go_simp; done)
                refine wpAnyIn_ready (rs := [0, 1, 2]) (by decide +kernel) (by simp) (AllReadyIn.cons rfl (fun K hK => ?_) (AllReadyIn.cons rfl (fun K hK => ?_) (AllReadyIn.cons rfl (fun K hK => ?_) AllReadyIn.nil)))
                ·
                  go_simp; refine hK _ _ ?_; clear hK K
                  refine wpAnyIn_ready (rs := [1, 2]) (by decide +kernel) (by simp) (AllReadyIn.cons rfl (fun K hK => ?_) (AllReadyIn.cons rfl (fun K hK => ?_) AllReadyIn.nil))
                  ·
                    go_simp; refine hK _ _ ?_; clear hK K
                    refine wpAnyIn_ready (rs := [2]) (by decide +kernel) (by simp) (AllReadyIn.cons rfl (fun K hK => ?_) AllReadyIn.nil)
                    go_simp; refine hK _ _ ?_; clear hK K
                    refine wpAnyIn_take (i := 5) (v := .pointer (some ⟨g2, o2 + J * 6, none⟩)) rfl rfl (by decide +kernel) (by decide +kernel) (by decide +kernel) (fun _ _ _ h => h) ⟨Or.inl ⟨by rfl, ?_⟩, fun _ => rfl⟩ ?_
                    · (intro w; go_simp; done)
                    refine wpAnyIn_ready (rs := [6]) (by decide +kernel) (by simp) (AllReadyIn.cons rfl (fun K hK => ?_) AllReadyIn.nil)
                    go_simp; refine hK _ _ ?_; clear hK K
                    exact htail _ _ (IsFW.mk _ _)
                  ·
                    go_simp; refine hK _ _ ?_; clear hK K
                    refine wpAnyIn_take (i := 5) (v := .pointer (some ⟨g2, o2 + J * 6, none⟩)) rfl rfl (by decide +kernel) (by decide +kernel) (by decide +kernel) (fun _ _ _ h => h) ⟨Or.inl ⟨by rfl, ?_⟩, fun _ => rfl⟩ ?_
                    · (intro w; go_simp; done)
                    refine wpAnyIn_ready (rs := [1, 6]) (by decide +kernel) (by simp) (AllReadyIn.cons rfl (fun K hK => ?_) (AllReadyIn.cons rfl (fun K hK => ?_) AllReadyIn.nil))
                    ·
                      go_simp; refine hK _ _ ?_; clear hK K
                      refine wpAnyIn_ready (rs := [6]) (by decide +kernel) (by simp) (AllReadyIn.cons rfl (fun K hK => ?_) AllReadyIn.nil)
                      go_simp; refine hK _ _ ?_; clear hK K
                      exact htail _ _ (IsFW.mk _ _)
                    ·
                      go_simp; refine hK _ _ ?_; clear hK K
                      refine wpAnyIn_ready (rs := [1]) (by decide +kernel) (by simp) (AllReadyIn.cons rfl (fun K hK => ?_) AllReadyIn.nil)
                      go_simp; refine hK _ _ ?_; clear hK K
                      exact htail _ _ (IsFW.mk _ _)
                ·
                  go_simp; refine hK _ _ ?_; clear hK K
                  refine wpAnyIn_ready (rs := [0, 2]) (by decide +kernel) (by simp) (AllReadyIn.cons rfl (fun K hK => ?_) (AllReadyIn.cons rfl (fun K hK => ?_) AllReadyIn.nil))
                  ·
                    go_simp; refine hK _ _ ?_; clear hK K
                    refine wpAnyIn_ready (rs := [2]) (by decide +kernel) (by simp) (AllReadyIn.cons rfl (fun K hK => ?_) AllReadyIn.nil)
                    go_simp; refine hK _ _ ?_; clear hK K
                    refine wpAnyIn_take (i := 5) (v := .pointer (some ⟨g2, o2 + J * 6, none⟩)) rfl rfl (by decide +kernel) (by decide +kernel) (by decide +kernel) (fun _ _ _ h => h) ⟨Or.inl ⟨by rfl, ?_⟩, fun _ => rfl⟩ ?_
                    · (intro w; go_simp; done)
                    refine wpAnyIn_ready (rs := [6]) (by decide +kernel) (by simp) (AllReadyIn.cons rfl (fun K hK => ?_) AllReadyIn.nil)
                    go_simp; refine hK _ _ ?_; clear hK K
                    exact htail _ _ (IsFW.mk _ _)
                  ·
                    go_simp; refine hK _ _ ?_; clear hK K
                    refine wpAnyIn_take (i := 5) (v := .pointer (some ⟨g2, o2 + J * 6, none⟩)) rfl rfl (by decide +kernel) (by decide +kernel) (by decide +kernel) (fun _ _ _ h => h) ⟨Or.inl ⟨by rfl, ?_⟩, fun _ => rfl⟩ ?_
                    · (intro w; go_simp; done)
                    refine wpAnyIn_ready (rs := [0, 6]) (by decide +kernel) (by simp) (AllReadyIn.cons rfl (fun K hK => ?_) (AllReadyIn.cons rfl (fun K hK => ?_) AllReadyIn.nil))
                    ·
                      go_simp; refine hK _ _ ?_; clear hK K
                      refine wpAnyIn_ready (rs := [6]) (by decide +kernel) (by simp) (AllReadyIn.cons rfl (fun K hK => ?_) AllReadyIn.nil)
                      go_simp; refine hK _ _ ?_; clear hK K
                      exact htail _ _ (IsFW.mk _ _)
                    ·
                      go_simp; refine hK _ _ ?_; clear hK K
                      refine wpAnyIn_ready (rs := [0]) (by decide +kernel) (by simp) (AllReadyIn.cons rfl (fun K hK => ?_) AllReadyIn.nil)
                      go_simp; refine hK _ _ ?_; clear hK K
                      exact htail _ _ (IsFW.mk _ _)
                ·
                  go_simp; refine hK _ _ ?_; clear hK K
                  refine wpAnyIn_take (i := 5) (v := .pointer (some ⟨g2, o2 + J * 6, none⟩)) rfl rfl (by decide +kernel) (by decide +kernel) (by decide +kernel) (fun _ _ _ h => h) ⟨Or.inl ⟨by rfl, ?_⟩, fun _ => rfl⟩ ?_
                  · (intro w; go_simp; done)
                  refine wpAnyIn_ready (rs := [0, 1, 6]) (by decide +kernel) (by simp) (AllReadyIn.cons rfl (fun K hK => ?_) (AllReadyIn.cons rfl (fun K hK => ?_) (AllReadyIn.cons rfl (fun K hK => ?_) AllReadyIn.nil)))
                  ·
                    go_simp; refine hK _ _ ?_; clear hK K
                    refine wpAnyIn_ready (rs := [1, 6]) (by decide +kernel) (by simp) (AllReadyIn.cons rfl (fun K hK => ?_) (AllReadyIn.cons rfl (fun K hK => ?_) AllReadyIn.nil))
                    ·
                      go_simp; refine hK _ _ ?_; clear hK K
                      refine wpAnyIn_ready (rs := [6]) (by decide +kernel) (by simp) (AllReadyIn.cons rfl (fun K hK => ?_) AllReadyIn.nil)
                      go_simp; refine hK _ _ ?_; clear hK K
                      exact htail _ _ (IsFW.mk _ _)
                    ·
                      go_simp; refine hK _ _ ?_; clear hK K
                      refine wpAnyIn_ready (rs := [1]) (by decide +kernel) (by simp) (AllReadyIn.cons rfl (fun K hK => ?_) AllReadyIn.nil)
                      go_simp; refine hK _ _ ?_; clear hK K
                      exact htail _ _ (IsFW.mk _ _)
                  ·
                    go_simp; refine hK _ _ ?_; clear hK K
                    refine wpAnyIn_ready (rs := [0, 6]) (by decide +kernel) (by simp) (AllReadyIn.cons rfl (fun K hK => ?_) (AllReadyIn.cons rfl (fun K hK => ?_) AllReadyIn.nil))
                    ·
                      go_simp; refine hK _ _ ?_; clear hK K
                      refine wpAnyIn_ready (rs := [6]) (by decide +kernel) (by simp) (AllReadyIn.cons rfl (fun K hK => ?_) AllReadyIn.nil)
                      go_simp; refine hK _ _ ?_; clear hK K
                      exact htail _ _ (IsFW.mk _ _)
                    ·
                      go_simp; refine hK _ _ ?_; clear hK K
                      refine wpAnyIn_ready (rs := [0]) (by decide +kernel) (by simp) (AllReadyIn.cons rfl (fun K hK => ?_) AllReadyIn.nil)
                      go_simp; refine hK _ _ ?_; clear hK K
                      exact htail _ _ (IsFW.mk _ _)
                  ·
                    go_simp; refine hK _ _ ?_; clear hK K
                    refine wpAnyIn_ready (rs := [0, 1]) (by decide +kernel) (by simp) (AllReadyIn.cons rfl (fun K hK => ?_) (AllReadyIn.cons rfl (fun K hK => ?_) AllReadyIn.nil))
                    ·
                      go_simp; refine hK _ _ ?_; clear hK K
                      refine wpAnyIn_ready (rs := [1]) (by decide +kernel) (by simp) (AllReadyIn.cons rfl (fun K hK => ?_) AllReadyIn.nil)
                      go_simp; refine hK _ _ ?_; clear hK K
                      exact htail _ _ (IsFW.mk _ _)
                    ·
                      go_simp; refine hK _ _ ?_; clear hK K
                      refine wpAnyIn_ready (rs := [0]) (by decide +kernel) (by simp) (AllReadyIn.cons rfl (fun K hK => ?_) AllReadyIn.nil)
                      go_simp; refine hK _ _ ?_; clear hK K
                      exact htail _ _ (IsFW.mk _ _)
              -- REGION23 END
            case tail =>
              rintro a' w' ⟨ha, rfl⟩
              rw [ha]
              clear ha
              refine wpAnyIn_ready (rs := [7]) (by decide +kernel) (by simp) (AllReadyIn.cons rfl (fun K hK => ?_) AllReadyIn.nil)
              go_simp
              refine ⟨trivial, (callsIn_wide.2 HDOES.out).mono ?_⟩
              rintro e w4 ⟨v', M2, rfl, P4, L4, -, -, -, -, -, fr, hap⟩
              obtain ⟨q1, q2, q3, q4⟩ := HZ.out.step (Fr.drew _ V) P4 L4 fr hap
              obtain ⟨va2, vc2, rfl⟩ := rowE_slice P4.row
              have Q1 := Lib.hid q1
              have Q2 := Lib.hid (HZ.out.keepL W8.heap.size q2)
              have hdl := doesL_len o L'
              clear P4 L4 fr hap q1 q2
              dsimp only
              refine hK _ _ ?_
              clear hK K
              refine wpAnyIn_ready (rs := [8]) (by decide +kernel) (by simp) (AllReadyIn.cons rfl (fun K hK => ?_) AllReadyIn.nil)
              go_simp; refine hK _ _ ?_; clear hK K
              refine wpAnyIn_take (i := 9) (v := .slice va2 (doesL o L').length vc2) rfl rfl (by decide +kernel) (by decide +kernel) (by decide +kernel) (fun _ _ _ h => h) ⟨Or.inl ⟨by rfl, ?_⟩, fun _ => rfl⟩ ?_
              · (intro w; go_simp; done)
              refine wpAnyIn_take (i := 10) (v := .bool true) rfl rfl (by decide +kernel) (by decide +kernel) (by decide +kernel) (fun _ _ _ h => h) ⟨Or.inl ⟨by rfl, ?_⟩, fun _ => rfl⟩ ?_
              · (intro w; go_simp; done)
              refine wpAnyIn_take (i := 11) (v := .slice va2 (doesL o L').length vc2) rfl rfl (by decide +kernel) (by decide +kernel) (by decide +kernel) (fun _ _ _ h => h) ⟨Or.inl ⟨by rfl, ?_⟩, fun _ => rfl⟩ ?_
              · (intro w; go_simp; done)
              refine wpAnyIn_take (i := 12) (v := .bool true) rfl rfl (by decide +kernel) (by decide +kernel) (by decide +kernel) (fun _ _ _ h => h) ⟨Or.inl ⟨by rfl, ?_⟩, fun _ => rfl⟩ ?_
              · (intro w; go_simp; done)
              refine wpAnyIn_done (by decide +kernel) ?_ _
              gi_wp2_with fail
              gi_meet
              case rel => exact ⟨_, M2, _, Q1.out, by omega, Q2.out.1, Q2.out.2⟩
          · have g1 : decide ((J : Int) < (l2.length : Int)) = false := by rw [decide_eq_false_iff_not]; omega
            gi_wp2_with fail
            gi_meet
            case rel => exact ⟨vl, M', L', HZ.out, by omega, KeepsOthers.refl _, ⟨Keep.refl _ _, fun _ _ _ h => h⟩⟩
        case rest =>
          obtain ⟨vl2, M2, L2, hz2, hL2, hko, hke⟩ := hcut.out
          obtain ⟨wo2, rfl⟩ : ∃ x, x = wc := ⟨_, rfl⟩
          have hrow2 := hz2.r15
          rw [List.length_map, HJ.out] at hrow2
          have HROW := Lib.hid hrow2
          have HZB := Lib.hid hz2
          have HKO := Lib.hid hko
          have HKE := Lib.hid hke
          have HL2 := Lib.hid hL2
          have e15 := hz2.b15.cell
          have e13 := hz2.b13.cell
          have z15 := hz2.b15.lt
          have z13 := hz2.b13.lt
          have HFR : Hid (w.heap.size ≤ wo2.heap.size) := hz2.bel.size
          have g1 : ¬ (K : Int) < (J : Int) + 1 := by omega
          have g2 : ¬ K < J + 1 := by omega
          clear hz2 hrow2 hko hke hL2 hc15 hc5 hc7 hc8 hll
          gi_wp2_with (gi_at_builtin; refine wpListIn_append_own_at _ rfl (.tmp 79) (.tmp 83) 39 rfl w.heap.size 54 i0 (.agg #[.string ⟨#[]⟩, .int .i64 0]) 2 24 Try.underlying39 HI.out HZ0.out HZ1.out HZ2.out rfl (by decide) _ J _ rfl (HROW.out.alloc _) ⟨wo2.heap.size, 0, none⟩ 1 1 [.string x.key, .int .i64 xx] rfl rfl lit_cells (by simp [Value.oneCell']) (by unfold maxLen; omega) (by omega) (by have := HFR.out; simp; omega) ?_; intro v' w1 hown' hgrow _ hloc; obtain ⟨va3, vc3, rfl⟩ := owns_slice hown'; obtain ⟨q1, q2, q3, q4, q5⟩ := HZB.out.app (e0 := (x.key, xx)) (Fr.alloc (fun _ => False) wo2 _) (by rw [List.length_map, HJ.out]; exact hown') hgrow hloc; have Q1 := Lib.hid q1; have Q2 := Lib.hid (HZB.out.keepS W8.heap.size q2); clear hown' hgrow hloc q1 q2)
          refine ⟨HKO.out.trans Q2.out.1, HKE.out.trans Q2.out.2, vl2, M2, L2, ⟨.slice va3 (J + 1) vc3, ?_⟩, ?_⟩
          · rw [List.map_append, List.map_singleton, hen.out]
            exact Q1.out
          · have := HL2.out
            rw [List.length_append, HJ.out]
            exact this
      case done =>
        rintro D ys V hD rfl ⟨vl, M', L', vs, hz, hll⟩ hK
        have hSl : ((opn M).flatten.map toEn).length = L.length := (each_perm HLK.out).length_eq
        have hll2 : L'.length ≤ K + K := by rw [List.length_map] at hSl; rw [hSl, HKK.out] at hll; exact hll
        have hrow := hz.r15
        rw [hSl, HKK.out] at hrow
        obtain ⟨sa, sc, rfl⟩ := owns_slice hrow
        have hrow0 := hz.r13
        rw [HKK.out] at hrow0
        have HROW : Hid (V.ownsRow w.heap.size 54 2 (.slice sa K sc) K ((eachL M).flatMap enCells)) := hrow
        have HROW0 : Hid (V.ownsRow w.heap.size 54 2 (.slice va' K vc') K (L.flatMap enCells)) := hrow0
        have HZB : Hid (Rz w p (wo.heap.size + 1) w5.heap.size (w5.heap.size + 1) (.slice a2 l2.length c2) vl (.slice va' K vc') (.slice sa K sc) d M' L' L (eachL M) V) := hz
        have HK := Lib.hid hK
        have HSl : Hid ((eachL M).length = K) := by show _ = _; rw [← HKK.out]; exact hSl
        have HPM : Hid ((eachL M).Perm L) := each_perm HLK.out
        have HND : Hid ((L.map (·.1)).Nodup) := HLK.out.nodup
        have e15 := hz.b15.cell
        have e13 := hz.b13.cell
        have z15 := hz.b15.lt
        have z13 := hz.b13.lt
        have HDD := Lib.hid hD
        clear hz hrow hrow0 hK hSl hll hD HAl HRZ HLK HN
        gi_wp2_with fail
        gi_loopw [21, 22, 24, 92] (fun _ _ _ i wr => ∃ k : Nat, i = .int .i64 k ∧ k ≤ K ∧ Hid (Fr (fun _ => False) V wr)) (fun _ _ _ i _ => K - (intOf i).toNat)
        case atStart => exact ⟨0, rfl, by omega, Fr.refl _ _⟩
        case round =>
          obtain ⟨k, rfl, hk, HF⟩ := hrel
          obtain ⟨wq, rfl⟩ : ∃ x, x = wr := ⟨_, rfl⟩
          by_cases hlt : k < K
          · have hrd : RdC wq 2 (.slice va' K vc') K (L.flatMap enCells) := (RdC.of_owns HROW0.out).fr HF.out (fun _ _ h => h)
            have hkL : k < L.length := by rw [HKK.out]; exact hlt
            obtain ⟨e1, e2⟩ := flat_get L k hkL
            obtain ⟨g1, o1, rfl, hcells⟩ := hrd.at (by rw [flat_len]; omega)
            have d0 := hcells _ _ e1
            have d1 := hcells _ _ e2
            rw [← Nat.add_assoc] at d1
            obtain ⟨en, hen⟩ : ∃ en, L[k] = en := ⟨_, rfl⟩
            rw [hen] at d0 d1
            have HEN : Hid (en ∈ L) := by rw [← hen]; exact List.getElem_mem _
            have hcb2 : wq.cell? ⟨w5.heap.size + 1, 0, none⟩ = some (.slice sa K sc) := HF.out.cell e15 (fun h => h)
            have hsz2 : w5.heap.size + 1 < wq.heap.size := Nat.lt_of_lt_of_le z15 HF.out.size
            have hb0i : (0 : Int) ≤ (k : Int) := by omega
            have hb1i : (k : Int) < (K : Int) := by omega
            clear hrd e1 e2 hcells hen hkL
            gi_wp2_with fail
            obtain ⟨W1, hW1⟩ : ∃ W, wq.alloc (.cells #[.string en.1, .int .i64 en.2] 54) = W := ⟨_, rfl⟩
            have hbk : W1.heap[wq.heap.size]? = some (.cells #[.string en.1, .int .i64 en.2] 54 (0, 0)) := by rw [← hW1]; exact alloc_at _ _
            have HF1 : Hid (Fr (fun _ => False) V W1) := by rw [← hW1]; exact HF.out.thenAlloc _
            have HBK := Lib.hid hbk
            rw [hW1]
            clear hW1 hbk d0 d1 hcb2
            gi_loopw [22, 24, 98] (fun n _ i wr => ∃ j : Nat, i = .int .i64 j ∧ j ≤ K ∧ n = .int .i64 (cntE en ((eachL M).take j) : Nat) ∧ Hid (Fr (fun _ => False) W1 wr)) (fun _ _ i _ => K - (intOf i).toNat)
            case atStart => exact ⟨0, rfl, by omega, rfl, Fr.refl (fun _ => False) W1⟩
            case round =>
              obtain ⟨j, rfl, hj, rfl, HF2⟩ := hrel
              obtain ⟨wi, rfl⟩ : ∃ x, x = wr := ⟨_, rfl⟩
              have hcl : cntE en ((eachL M).take j) ≤ j := Nat.le_trans (cntE_le _ _) (List.length_take_le _ _)
              obtain ⟨C, hC⟩ : ∃ C, cntE en ((eachL M).take j) = C := ⟨_, rfl⟩
              rw [hC] at hcl ⊢
              by_cases hlt2 : j < K
              · have hfv : Fr (fun _ => False) V wi := HF1.out.wide HF2.out (fun _ h => h.elim)
                have hrow2 := owns_fr HROW.out hfv (fun _ _ h => h)
                obtain ⟨g2, cap2, q2, -, hcell2⟩ := own_at hrow2 (by rw [flat_len, HSl.out]; omega)
                cases q2
                have hj2 : j < (eachL M).length := by rw [HSl.out]; exact hlt2
                obtain ⟨s1, s2⟩ := flat_get (eachL M) j hj2
                have f0 := hcell2 _ _ s1
                have f1 := hcell2 _ _ s2
                obtain ⟨y, hy⟩ : ∃ y, (eachL M)[j] = y := ⟨_, rfl⟩
                rw [hy] at f0 f1
                have hts : (eachL M).take (j + 1) = (eachL M).take j ++ [y] := by rw [List.take_succ_eq_append_getElem hj2, hy]
                have HTS : Hid (cntE en ((eachL M).take (j + 1)) = C + if y = en then 1 else 0) := by show _ = _; rw [hts, cntE_snoc, hC]
                have k0 : wi.cell? ⟨wq.heap.size, 0, none⟩ = some (.string en.1) := HF2.out.cell (by rw [cell_of_blk HBK.out]; rfl) (fun h => h)
                have k1 : wi.cell? ⟨wq.heap.size, 1, none⟩ = some (.int .i64 en.2) := HF2.out.cell (by rw [cell_of_blk HBK.out]; rfl) (fun h => h)
                have ks : wq.heap.size < wi.heap.size := Nat.lt_of_lt_of_le (Array.getElem?_eq_some_iff.1 HBK.out).1 HF2.out.size
                have HFA : Hid (Fr (fun _ => False) W1 (wi.alloc (.cells #[.string y.1, .int .i64 y.2] 54))) := HF2.out.thenAlloc _
                have hb0j : (0 : Int) ≤ (j : Int) := by omega
                have hb1j : (j : Int) < (K : Int) := by omega
                clear hfv hrow2 hcell2 s1 s2 hy hts hC
                by_cases hye : y = en
                · have HT2 : Hid (cntE en ((eachL M).take (j + 1)) = C + 1) := by show _ = _; rw [HTS.out, if_pos hye]
                  subst hye
                  gi_wp2
                  go_roundw
                  case rel => exact ⟨j + 1, by go_num, by omega, by rw [HT2.out]; go_num, HFA⟩
                  case measure => simp [intOf]; omega
                · have HT2 : Hid (cntE en ((eachL M).take (j + 1)) = C) := by show _ = _; rw [HTS.out, if_neg hye, Nat.add_zero]
                  by_cases hyk : y.1 = en.1
                  · have hq2 : ¬ y.2 = en.2 := fun h => hye (Prod.ext hyk h)
                    have hq1 : y.1.toList = en.1.toList := by rw [hyk]
                    clear hye hyk
                    gi_wp2
                    go_roundw
                    case rel => exact ⟨j + 1, by go_num, by omega, by rw [HT2.out], HFA⟩
                    case measure => simp [intOf]; omega
                  · have hq1 : ¬ y.1.toList = en.1.toList := fun h => hyk (by have := str_beq y.1 en.1; rw [h] at this; simpa using this)
                    clear hye hyk
                    gi_wp2
                    go_roundw
                    case rel => exact ⟨j + 1, by go_num, by omega, by rw [HT2.out], HFA⟩
                    case measure => simp [intOf]; omega
              · obtain rfl : j = K := by omega
                have hone : C = 1 := by
                  rw [← hC, List.take_of_length_le (by rw [HSl.out]; exact Nat.le_refl _)]
                  exact cntE_one HPM.out HND.out HEN.out
                have HFA : Hid (Fr (fun _ => False) V wi) := HF1.out.wide HF2.out (fun _ h => h.elim)
                rw [hone]
                clear hone hC hcl
                gi_wp2
                go_roundw
                case rel => exact ⟨k + 1, by go_num, by omega, HFA⟩
                case measure => simp [intOf]; omega
          · obtain rfl : K = k := by omega
            gi_wp2_with fail
            obtain ⟨WN, hWN⟩ : ∃ W, wq.alloc (.cells #[.int .i64 0] 3) = W := ⟨_, rfl⟩
            have hfn : Fr (fun _ => False) V WN := by rw [← hWN]; exact HF.out.thenAlloc _
            have HZN := Lib.hid (HZB.out.quiet hfn)
            have HB25 : Hid (Boxed WN wq.heap.size 3 (.int .i64 0)) := by rw [← hWN]; exact Boxed.new _ _ _
            have hzn : wq.heap.size + 1 = WN.heap.size := by rw [← hWN]; simp
            have HZS := Lib.hid hzn
            have HS25 : Hid (w5.heap.size + 1 < wq.heap.size) := Nat.lt_of_lt_of_le HZB.out.b15.lt HF.out.size
            have HKD : Hid (WN.heap[D]? = some (.deferred (some []))) := (hfn.block D (Array.getElem?_eq_some_iff.1 HK.out).1 (fun h => h)).trans HK.out
            have HDW : Hid (D < WN.heap.size) := Nat.lt_of_lt_of_le (Array.getElem?_eq_some_iff.1 HK.out).1 hfn.size
            have HNL : Hid ((opn M').flatten.length = L'.length) := each_len HZB.out.like
            have HALN : Hid (Al d w5.heap.size M' WN) := ⟨HZN.out.pr.dat, HZN.out.bE⟩
            rw [hWN]
            clear hWN hfn hzn e13 e15 z13 z15
            apply wpIn_rangeV rfl (by decide) (gf := 67) (lb := #[.pointer (some ⟨w5.heap.size, 0, none⟩)]) rfl trivial (enters_of Try.func67 (by kernel_rfl) rfl)
              (each_stops _ (8 - 1) trivial trivial trivial rfl (by decide) w5.heap.size d M' WN.heap.size WN (Nat.le_refl _) HALN.out (each_val HZB.out.like) (by rw [HZB.out.like.count]; omega))
              (fun _ _ _ h k => h.trans k) (fun V l r r' _ h => EachK.loop _ V l r r' h) (Below.refl _ _) (fun _ => rfl)
              (fun pre V => Rz w p (wo.heap.size + 1) w5.heap.size (w5.heap.size + 1) (.slice a2 l2.length c2) vl (.slice va' K vc') (.slice sa K sc) d M' L' L (eachL M) V ∧ Boxed V wq.heap.size 3 (.int .i64 pre.length) ∧ V.heap[D]? = some (.deferred (some [])))
              (fun _ _ _ => False)
              ?own2 (fun _ _ _ _ _ hs _ _ => hs) ⟨HZN.out, HB25.out, HKD.out⟩
              _ ?assign2 ?body2 ?done2 ?stop2
            case assign2 =>
              intro lr x V Q hQ
              unfold etE
              gi_wp2
              exact hQ
            case own2 =>
              rintro pre A B row ⟨hz, hb, hk⟩ hg hr
              have hne : ∀ (k : Nat) cs t m, A.heap[k]? = some (.cells cs t m) → some k ≠ row := by
                intro k cs t m hk e
                obtain ⟨_, o, ho, hc⟩ := hr k e.symm
                rw [hk] at ho
                cases ho
                cases hc
              refine ⟨hz.turn hg fun r e => ⟨?_, (hr r e).2⟩, hb.kept hg (hne _ _ _ _ hb), (hg.block D (Array.getElem?_eq_some_iff.1 hk).1 (fun e => ?_)).trans hk⟩
              · have h1 := (hr r e).1
                have h2 := hz.lo
                have h3 := hz.n1
                have h4 := hz.n2
                have h5 := hz.n3
                have h6 := HS25.out
                have h7 := HZS.out
                omega
              · have h1 := (hr D e.symm).1
                have h2 := HDW.out
                omega
            case body2 =>
              rintro lr pre x V ⟨hz, hb, hkD⟩ hv
              have hlen : (pre ++ [x]).length ≤ L'.length := by rw [← HNL.out]; exact hv.length_le
              rw [List.length_append] at hlen
              have hpl : pre.length + 1 ≤ L'.length := hlen
              obtain ⟨J, hJ⟩ : ∃ k, pre.length = k := ⟨_, rfl⟩
              rw [hJ] at hpl hb
              obtain ⟨vla, vlc, rfl⟩ := rowE_slice hz.pr.row
              have HZ := Lib.hid hz
              have HB := Lib.hid hb
              have HJ := Lib.hid hJ
              have HKV := Lib.hid hkD
              have e8 := hz.b8.cell
              have e25 := hb.cell
              have f25 := hb.frozen
              have z25 := hb.lt
              have z8 := hz.b8.lt
              have hne8 : p + 1 ≠ wq.heap.size := by have := hz.n1; have := hz.n2; have := HS25.out; omega
              have q1 : ¬ (L'.length : Int) < (J : Int) + 1 := by omega
              have q2 : ¬ L'.length < J + 1 := by omega
              clear hz hb hJ hlen hv hkD
              gi_wp2_with fail
              have hs := Fr.setCell V ⟨wq.heap.size, 0, none⟩ (.int .i64 ((J : Int) + 1))
              have HN1 : wq.heap.size < WN.heap.size := by have := HZS.out; omega
              have hfree : Free2 w p (wo.heap.size + 1) w5.heap.size (w5.heap.size + 1) (.slice vla L'.length vlc) (.slice va' K vc') (.slice sa K sc) d M' wq.heap.size := by
                have h2 := HZ.out.lo
                have h3 := HZ.out.n1
                have h4 := HZ.out.n2
                have h6 := HS25.out
                exact ⟨⟨by omega, by omega, by omega, box_dict HB.out HZ.out.pr.dat (by decide), fun e => HB.out.not_row (by decide) HZ.out.pr.row e.symm⟩, by omega, by omega, by omega, fun e => HB.out.not_row (by decide) HZ.out.r13 e.symm, fun e => HB.out.not_row (by decide) HZ.out.r15 e.symm⟩
              refine ⟨KeepsOthers.setCell V _ _, ⟨Keep.of_fr hs (fun k cs t m h1 h2 h3 => ?_), Late.of_others _ (KeepsOthers.setCell V _ _)⟩, HZ.out.fr hs (fun k hk => by rw [show k = wq.heap.size from hk]; exact hfree), ?_, ?_⟩
              · have h4 : WN.heap.size ≤ k := h1.1
                have h5 : k = wq.heap.size := h3
                omega
              · have h := HB.out.set (.int .i64 ((J : Int) + 1))
                rw [List.length_append, HJ.out]
                exact h
              · exact (KeepsOthers.setCell V ⟨wq.heap.size, 0, none⟩ (.int .i64 ((J : Int) + 1))).same D _ HKV.out rfl
            case done2 =>
              rintro D2 ys V2 hD2 rfl ⟨hz, hb, hkD⟩ hK2
              rw [HNL.out] at hb
              obtain ⟨vla, vlc, rfl⟩ := rowE_slice hz.pr.row
              have HZ := Lib.hid hz
              have HB := Lib.hid hb
              have HK1 := Lib.hid hkD
              have HK2 := Lib.hid hK2
              have HDD2 : Hid (D < D2) := Nat.lt_of_lt_of_le HDW.out hD2
              have e8 := hz.b8.cell
              have e7 := hz.b7.cell
              have e13 := hz.b13.cell
              have e15 := hz.b15.cell
              have e25 := hb.cell
              have HON := Lib.hid (once_any V2 d M' L' (.slice vla L'.length vlc) hz.pr.dat hz.like (RdC.of_owns hz.pr.row) (by omega))
              clear hz hb hkD hK2 hD2
              gi_wp2_with fail
              refine ⟨trivial, (callsIn_wide.2 HON.out).mono ?_⟩
              rintro e w9 ⟨rfl, hf9⟩
              have HZ9 := Lib.hid (HZ.out.quiet hf9)
              have HK91 : Hid (w9.heap[D]? = some (.deferred (some []))) := (hf9.block D (Array.getElem?_eq_some_iff.1 HK1.out).1 (fun h => h)).trans HK1.out
              have HK92 : Hid (w9.heap[D2]? = some (.deferred (some []))) := (hf9.block D2 (Array.getElem?_eq_some_iff.1 HK2.out).1 (fun h => h)).trans HK2.out
              have hc9 := HZ9.out.b6.cell
              have hf6 := HZ9.out.b6.frozen
              clear hf9 e8 e7 e13 e15 e25
              gi_wp2
              have hK1' : (w9.setCell ⟨w.heap.size + 1, 0, none⟩ (.bool true)).heap[D]? = some (.deferred (some [])) := (KeepsOthers.setCell w9 ⟨w.heap.size + 1, 0, none⟩ (.bool true)).same D _ HK91.out rfl
              have hK2' : (w9.setCell ⟨w.heap.size + 1, 0, none⟩ (.bool true)).heap[D2]? = some (.deferred (some [])) := (KeepsOthers.setCell w9 ⟨w.heap.size + 1, 0, none⟩ (.bool true)).same D2 _ HK92.out rfl
              have hK3' : ((w9.setCell ⟨w.heap.size + 1, 0, none⟩ (.bool true)).putObj D2 (.deferred none)).heap[D]? = some (.deferred (some [])) := (World.putObj_heap_other (Nat.ne_of_lt HDD2.out)).trans hK1'
              refine ⟨by simp, .inl ⟨_, _, rfl, run_takeDeferred hK2', ⟨by simp, .inl ⟨_, _, rfl, run_takeDeferred hK3', ?_⟩⟩⟩⟩
              have hc5 := cell_kept (World.cell?_setCell_same' w9 ⟨w.heap.size + 1, 0, none⟩ (.bool true) (by rw [hc9]; rfl)) (grownBy_putObj' _ D2 (.deferred none)) (fun r e => by cases e; exact ⟨_, hK2', rfl⟩)
              have hc6 := cell_kept hc5 (grownBy_putObj' _ D (.deferred none)) (fun r e => by cases e; exact ⟨_, hK3', rfl⟩)
              refine ⟨.bool true, ?_, rfl, ?_⟩
              · simp [results, Try.f11, go_sem, hc6]
              · have b9 := HZ9.out.bel
                have z1 : w.heap.size ≤ D := by have h1 := HDD.out; have h2 := HS8.out; have h3 := HZ9.out.lo; have h4 := HZ9.out.n1; have h5 := HZ9.out.n2; omega
                have z2 : w.heap.size ≤ D2 := Nat.le_trans z1 (Nat.le_of_lt HDD2.out)
                exact ((b9.setCell (p := ⟨w.heap.size + 1, 0, none⟩) (Nat.le_succ _) _).grown (grownBy_putObj' _ D2 (.deferred none)) (by have := b9.size; simp; omega) (fun k e => by cases e; exact z2)).grown (grownBy_putObj' _ D (.deferred none)) (by have := b9.size; have := (grownBy_putObj' (w9.setCell ⟨w.heap.size + 1, 0, none⟩ (.bool true)) D2 (.deferred none)).size; simp at this ⊢; omega) (fun k e => by cases e; exact z1)
            case stop2 =>
              rintro D c pre V _ _ h _
              exact h.elim
      case stop =>
        rintro D c pre V _ _ h _
        exact h.elim
set_option maxRecDepth 100000 in
theorem dictRanged_lifted (os : Os) (started : os.Started) (H : Type) (enc : TypeId × Value → H) :
    ReturnsInHanded {} Try.checked os 11 .any (Rows.dictRangedSpec.pre6 enc Try.prog Try.f11 Rows.dictRangedRow.domain false) (Rows.dictRangedSpec.post enc Try.prog Try.f11 false true false false) := by
  refine returnsInHanded_of_change_sized (C := Try.checked) own started (by kernel_rfl) Try.func11
    (ChangeSpec.witness6 (enc := enc) (C := Try.checked) false ⟨#[], #[.int .u64 0, .slice none 0 0, .slice none 0 0], []⟩ 8 (by kernel_rfl) (by kernel_rfl) (by kernel_rfl) (by kernel_rfl)) ?_
  intro W base args ds gs before hval0 hW hcnd hsz0 _
  have hval : ∀ (j : Nat) t v, Try.f11.params[j]? = some t → args[j]? = some v → Value.okWide Try.prog W .any base t v := hval0
  have hW' := hW
  obtain ⟨p, q, hA0, hV, rfl, hfz, hnd⟩ := hW
  have hA : DataW.TrodAll enc Try.prog W 0 (fun _ => true) true Try.f11.params.toList args.toList ds p := hA0
  rw [Try.params11] at hA hval
  obtain ⟨v0, vs0, d0, ds0, p0, q0, hargs, rfl, rfl, h0, r0⟩ := trodAll_cons hA
  obtain ⟨v1, vs1, d1, ds1, p1, q1, rfl, rfl, rfl, h1, r1⟩ := trodAll_cons r0
  obtain ⟨v2, vs2, d2, ds2, p2, q2, rfl, rfl, rfl, h2, r2⟩ := trodAll_cons r1
  obtain ⟨rfl, rfl, rfl⟩ := trodAll_nil r2
  obtain rfl : args = #[v0, v1, v2] := by cases args; simp_all
  obtain ⟨rfl, rfl⟩ := trodVars_none hV
  have hsz : (DataW.weightsEach Try.prog [22, 27, 27] [d0, d1, d2]).all (fun x => decide (x ≤ reachBytes)) = true := by
    have h := hsz0
    simp only [List.append_nil] at h
    have e : (Try.f11.params.toList ++ DataSpec.varTypes Try.checked.prog Rows.dictRangedSpec.plain) = [22, 27, 27] := by kernel_rfl
    rw [e] at h; exact h
  clear hsz0
  obtain ⟨hw0, hsz0⟩ := weights_cons hsz
  obtain ⟨x0, rfl⟩ := open_word Try.underlying22 (hval 0 22 v0 rfl rfl) h0
  obtain ⟨hw1, hsz1⟩ := weights_cons hsz0
  obtain ⟨l1, hr1, hb1⟩ := open_list spb spb_len Try.underlying27 (by kernel_rfl) sp_read (hval 1 27 v1 rfl rfl) h1
  have hby1 : l1.length * 56 ≤ reachBytes := by
    have e : Try.prog.bytesOf 32 = 56 := by kernel_rfl
    rw [← e]; exact hb1 _ hw1
  obtain ⟨hw2, hsz2⟩ := weights_cons hsz1
  obtain ⟨l2, hr2, hb2⟩ := open_list spb spb_len Try.underlying27 (by kernel_rfl) sp_read (hval 2 27 v2 rfl rfl) h2
  have hby2 : l2.length * 56 ≤ reachBytes := by
    have e : Try.prog.bytesOf 32 = 56 := by kernel_rfl
    rw [← e]; exact hb2 _ hw2
  clear hA0 hval0
  refine (dictRanged_walk W x0 v1 l1 hr1 hby1 v2 l2 hr2 hby2).mono fun e W' ⟨he, bel⟩ => ?_
  subst he
  exact ⟨_, rfl, law_post laidOut Try.underlying4 (by kernel_rfl) rfl (by kernel_rfl) hW' rfl bel⟩

theorem dictRanged_holds : Rows.DictRangedSaid :=
  OpenClaim.holds_of_wide 11 Try.f11 rfl rfl rfl rfl rfl rfl rfl ⟨rfl, rfl, rfl, rfl, rfl⟩ rfl rfl rfl rfl rfl (by kernel_rfl) Try.func11 (by kernel_rfl)
    (of_decide_eq_true (by kernel_rfl)) (by unfold Func.isWrapper; rw [if_neg (of_decide_eq_false (by kernel_rfl))]; exact ⟨rfl, rfl⟩)
    (fun os started H enc _ => dictRanged_lifted os started H enc)
end Go.Proofs.Ytkecipdonamjaaa
