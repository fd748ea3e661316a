/- DictKnown: the chapter's first example. A closed statement. -/
import Derived.Test.YtkecipdonamjaaaSteps
import Derived.Test.YtkecipdonamjaaaSameD
namespace Go.Proofs.Ytkecipdonamjaaa
open Go.ChangeShapes Go.WideShapes Go.ChangeAt Go.RowKit Di

def kn (k : Nat) : ByteArray := ⟨#[UInt8.ofNat (97 + k)]⟩
def Lk (k : Nat) : Pl := (List.range k).map fun j => (kn j, (j : Int))
theorem kn_none : ∀ k, k < 5 → atOf (kn k) (Lk k) = none := by decide
theorem kn_some : ∀ k, k < 4 → (atOf (kn k) (Lk (k + 1))).isSome = true := by decide
theorem kn_set : ∀ k, k < 5 → setL (Lk k) (kn k) k = Lk (k + 1) := by decide
theorem kn_put : ∀ k, k < 4 → setL (Lk (k + 1)) (kn k) k = Lk (k + 1) := by decide
theorem kn_len (k : Nat) : (Lk k).length = k := by simp [Lk]
theorem kn_size (k : Nat) : (kn k).size ≤ maxLen := by show 1 ≤ maxLen; decide
/-- a dict with its sizes, and the block of the four keys -/
structure KS (w0 : World) (B d bk : Nat) (O : Obj) (L : Pl) (a : Nat) (M : DM) (W : World) : Prop where
  dat : DAt W d M
  lk : Like M L
  sz : Sz M a 0 0
  sd : M.seed = 0
  base : ∀ k, Bs (dictL d M) k → B ≤ k
  le : B ≤ W.heap.size
  bel : Below B w0 W
  blk : W.heap[bk]? = some O
  no : ¬ Bs (dictL d M) bk
section
variable {w0 W W' : World} {B d bk : Nat} {O : Obj} {L : Pl} {a : Nat} {M M' : DM}
theorem KS.turn (h : KS w0 B d bk O L a M W) (t : Turn W d M W' M') {L' : Pl} {a' : Nat} (l : Like M' L') (s : Sz M' a' 0 0) (sd : M'.seed = M.seed) : KS w0 B d bk O L' a' M' W' := by
  have hlt : bk < W.heap.size := (Array.getElem?_eq_some_iff.1 h.blk).1
  exact ⟨t.at_, l, s, sd.trans h.sd, fun k hk => (t.bs k hk).elim (h.base k) (fun hl => Nat.le_trans h.le hl), Nat.le_trans h.le t.fr.size, h.bel.trans (t.fr.below h.le h.base), (t.fr.block bk hlt h.no).trans h.blk, fun hb => (t.bs bk hb).elim h.no (fun hl => by omega)⟩
theorem KS.drewN (h : KS w0 B d bk O L a M W) (n : Nat) : KS w0 B d bk O L a M (W.drewN n) :=
  ⟨h.dat.drewN n, h.lk, h.sz, h.sd, h.base, h.le, h.bel.trans ((Fr.drewN (fun _ => False) W n).below h.le (fun _ h => h.elim)), h.blk, h.no⟩
theorem ks_new (h : KS w0 B d bk O L a M W) (key : ByteArray) (x : Int) (hs : key.size ≤ maxLen) (hn : L.length < 17592186044416) (ha : atOf key L = none) (hc : a = 0 ∨ L.length < a) :
    Calls Try.prog 22 #[.pointer (some ⟨d, 0, none⟩), .string key, .int .i64 x] W fun e W' => e = .returned (.bool true) ∧ ∃ M', KS w0 B d bk O (setL L key x) (if a = 0 then 4 else a) M' W' := by
  have hh : hasK (tb M) key = false := by rw [h.lk.has, ha]; rfl
  refine (Di.set_any W d M key x hs h.dat (by rw [h.lk.count]; exact hn)).mono fun e W' ⟨h1, t, b, h2⟩ => ⟨by rw [h1, hh]; rfl, _, h.turn h2 (h.lk.set key x t b) ?_ (set_seed h.lk.inv key _ t b)⟩
  by_cases h0 : a = 0
  · subst h0
    rw [if_pos rfl]
    exact sz_set_first h.lk.inv key _ t b hh h.sz
  · rw [if_neg h0]
    exact sz_set_few h.lk.inv key _ t b hh h.sz (by rw [h.lk.count]; omega)
theorem ks_old (h : KS w0 B d bk O L a M W) (key : ByteArray) (x : Int) (hs : key.size ≤ maxLen) (hn : L.length < 17592186044416) (ha : (atOf key L).isSome = true) :
    Calls Try.prog 22 #[.pointer (some ⟨d, 0, none⟩), .string key, .int .i64 x] W fun e W' => e = .returned (.bool false) ∧ ∃ M', KS w0 B d bk O (setL L key x) a M' W' := by
  have hh : hasK (tb M) key = true := by rw [h.lk.has, ha]
  exact (Di.set_any W d M key x hs h.dat (by rw [h.lk.count]; exact hn)).mono fun e W' ⟨h1, t, b, h2⟩ => ⟨by rw [h1, hh]; rfl, _, h.turn h2 (h.lk.set key x t b) (sz_set_there h.lk.inv key _ t b hh h.sz) (set_seed h.lk.inv key _ t b)⟩
theorem sizes_sz (hd : DAt W d M) {a b c : Nat} (hs : Sz M a b c) :
    Calls Try.prog 27 #[.pointer (some ⟨d, 0, none⟩)] W fun e W' => e = .returned (.tuple #[.int .i64 a, .int .i64 b, .int .i64 c]) ∧ ∃ m, W' = W.drewN m :=
  (Di.sizes_any W d M hd).mono fun e W' ⟨h1, h2⟩ => ⟨by rw [h1, hs.1, hs.2.1, hs.2.2], h2⟩
end
set_option maxRecDepth 100000 in
set_option maxHeartbeats 4000000 in
theorem dictKnown_walk (w : World) : Calls Try.prog 8 #[] w fun e w' => e = .returned (.bool true) ∧ Below w.heap.size w w' := by
  go_enter Try.func8, Try.ntmps8
  go_wp2_with fail
  refine (wakes_any _).mono ?_
  rintro e w1 ⟨rfl, hb1⟩
  have HB1 := Lib.hid hb1; clear hb1
  go_wp2_with fail
  refine (new_like _ 0 0 rfl).mono ?_
  rintro e w2 ⟨d, M0, rfl, D0, L0, sd0, s1, s2, s3, HB0, hb2⟩
  have hks : KS w w.heap.size d w2.heap.size (.cells #[.string (kn 0), .string (kn 1), .string (kn 2), .string (kn 3)] 9 (0, 0)) (Lk 0) 0 M0 (w2.alloc (.cells #[.string (kn 0), .string (kn 1), .string (kn 2), .string (kn 3)] 9)) :=
    ⟨D0.fr (Fr.alloc (fun _ => False) w2 _) (fun _ _ h => h), L0, ⟨by rw [s1]; rfl, by rw [s2]; rfl, s3⟩, sd0, fun k hk => Nat.le_trans HB1.out.size (HB0.out k hk), Nat.le_trans (Nat.le_trans HB1.out.size hb2.size) (by simp),
      (HB1.out.trans (hb2.mono HB1.out.size)).alloc (Nat.le_trans HB1.out.size hb2.size) _, alloc_at _ _, fun hb => Nat.lt_irrefl _ (D0.rep.lt hb)⟩
  have HK := Lib.hid hks
  clear D0 L0 sd0 s1 s2 s3 HB0 hb2 hks HB1
  go_wp2_with fail
  go_loopw [16] (fun i wr => ∃ (k : Nat) (M : DM), i = .int .i64 k ∧ k ≤ 4 ∧ Hid (KS w w.heap.size d w2.heap.size (.cells #[.string (kn 0), .string (kn 1), .string (kn 2), .string (kn 3)] 9 (0, 0)) (Lk k) (if k = 0 then 0 else 4) M wr)) (fun i _ => 4 - (intOf i).toNat)
  case atStart => exact ⟨0, M0, rfl, by omega, HK⟩
  case round =>
    obtain ⟨k, M, rfl, hk, HR⟩ := hrel
    clear HK
    by_cases hlt : k < 4
    · have hc : wr.cell? ⟨w2.heap.size, k, none⟩ = some (.string (kn k)) := by
        rw [cell_of_blk HR.out.blk]
        have : k = 0 ∨ k = 1 ∨ k = 2 ∨ k = 3 := by omega
        rcases this with rfl | rfl | rfl | rfl <;> rfl
      have HN := Lib.hid (ks_new HR.out (kn k) k (kn_size k) (by rw [kn_len]; omega) (kn_none k (by omega)) (by rw [kn_len]; split <;> omega))
      have e4 : (if (if k = 0 then 0 else 4) = 0 then 4 else (if k = 0 then 0 else 4)) = 4 := by split <;> simp_all
      rw [kn_set k (by omega), e4] at HN
      clear e4
      go_wp2_with fail
      refine HN.out.mono ?_
      rintro e w4 ⟨rfl, M1, h1⟩
      have HO := Lib.hid (ks_old h1 (kn k) k (kn_size k) (by rw [kn_len]; omega) (kn_some k hlt))
      rw [kn_put k hlt] at HO
      clear h1 HN
      go_wp2_with fail
      refine HO.out.mono ?_
      rintro e w5 ⟨rfl, M2, h2⟩
      have HZ := Lib.hid (sizes_sz h2.dat h2.sz)
      have H2 := Lib.hid h2
      clear h2 HO
      go_wp2_with fail
      refine HZ.out.mono ?_
      rintro e w6 ⟨rfl, m6, rfl⟩
      have H3 := Lib.hid (H2.out.drewN m6)
      clear H2 HZ
      go_wp2
      go_roundw
      case rel => exact ⟨k + 1, M2, by go_num, by omega, by rw [if_neg (by omega)]; exact H3⟩
      case measure => simp [intOf]; omega
    · obtain rfl : k = 4 := by omega
      rw [if_neg (by omega)] at HR
      have hh : hasK (tb M) (kn 4) = false := by rw [HR.out.lk.has, kn_none 4 (by omega)]; rfl
      have HS := Lib.hid (Di.set_any wr d M (kn 4) 4 (kn_size 4) HR.out.dat (by rw [HR.out.lk.count, kn_len]; decide))
      rw [hh] at HS
      go_wp2_with fail
      refine HS.out.mono ?_
      rintro e w4 ⟨rfl, t, b, T⟩
      have hl := HR.out.lk.set (kn 4) 4 t b
      rw [show setL (Lk 4) (kn 4) 4 = Lk 5 by decide] at hl
      obtain ⟨z1, z2⟩ := sz_set_full HR.out.lk.inv (kn 4) [.int .i64 4] t b hh HR.out.sz (by omega) (by rw [HR.out.lk.count, kn_len]; omega)
      rw [HR.out.sd] at z2
      obtain ⟨N, hN⟩ : ∃ N, setM M (kn 4) [.int .i64 4] t b = N := ⟨_, rfl⟩
      rw [hN] at T hl z1 z2
      have HBN := Lib.hid (fun k hk => (T.bs k hk).elim (HR.out.base k) (fun hl => Nat.le_trans HR.out.le hl))
      have HB4 := Lib.hid (HR.out.bel.trans (T.fr.below HR.out.le HR.out.base))
      have HD := Lib.hid T.at_
      have HL := Lib.hid hl
      have HZ := Lib.hid z1
      have HY := Lib.hid z2
      have HLE := Lib.hid (Nat.le_trans HR.out.le T.fr.size)
      clear T hl z1 z2 hN hh HS HR
      go_wp2_with fail
      refine (sizes_sz HD.out HZ.out).mono ?_
      rintro e w5 ⟨rfl, m5, rfl⟩
      go_wp2_with fail
      refine (hash_any 0 (kn 4) _ (kn_size 4)).mono ?_
      rintro e w' ⟨rfl, rfl⟩
      go_wp2_with fail
      have hi : wrap64 ((wd (hash 0 (kn 4).data.toList)).tmod 8) = ((slotOf 0 (2 * 4) (kn 4) : Nat) : Int) := by
        show wrap64 ((((hash 0 (kn 4).data.toList).toNat : Nat) : Int).tmod ((8 : Nat) : Int)) = _
        rw [← Int.ofNat_tmod]
        show wrap64 (((hash 0 (kn 4).data.toList).toNat % 8 : Nat) : Int) = _
        have : (hash 0 (kn 4).data.toList).toNat % 8 < 8 := Nat.mod_lt _ (by decide)
        rw [IntWalk.wrap64_in _ (by omega)]
        rfl
      rw [hi]
      have hbk : bucketK N 1 ((slotOf 0 (2 * 4) (kn 4) : Nat) : Int) = [kn 4] := by
        unfold bucketK tabOf
        rw [if_pos ⟨.inr rfl, by omega⟩, if_pos rfl, Int.toNat_natCast, HY.out]
        rfl
      have HBK := Lib.hid (Di.bucket_any (w4.drewN m5) d N 1 ((slotOf 0 (2 * 4) (kn 4) : Nat) : Int) (HD.out.drewN m5) (by rw [HL.out.count, kn_len]; decide))
      rw [hbk] at HBK
      obtain ⟨si, hsi⟩ : ∃ si : Int, ((slotOf 0 (2 * 4) (kn 4) : Nat) : Int) = si := ⟨_, rfl⟩
      rw [hsi] at HBK ⊢
      clear hbk hi hsi
      refine HBK.out.mono ?_
      rintro e w6 ⟨v, rfl, hr, hb6⟩
      obtain ⟨va, vc, rfl⟩ := owns_slice hr
      have HR6 := Lib.hid hr
      have HB6 := Lib.hid hb6
      clear hr hb6 HBK
      go_wp2_with fail
      refine (sameD_any _ _ _ [kn 4] [kn 4] (RdC.of_owns (HR6.out.alloc _)) (RdC.of_owns (World.ownsRow_lit (e := 9) w6 #[.string (kn 4)] 1 (Nat.le_refl _) (by decide) rfl))).mono ?_
      rintro e w7 ⟨rfl, m7, rfl⟩
      have hd7 : DAt ((w6.alloc (.cells #[.string (kn 4)] 9)).drewN m7) d N := ((HD.out.drewN m5).fr (Fr.of_below HB6.out) (fun k hk hs => Nat.lt_irrefl _ (Nat.lt_of_lt_of_le ((HD.out.drewN m5).rep.lt hk) hs))).fr ((Fr.alloc (fun _ => False) w6 _).thenDrewN m7) (fun _ _ h => h)
      have hb7 : Below w.heap.size w ((w6.alloc (.cells #[.string (kn 4)] 9)).drewN m7) := by
        have h1 : Below w.heap.size w4 (w4.drewN m5) := (Fr.drewN (fun _ => False) w4 m5).below HLE.out (fun _ h => h.elim)
        have h2 : Below w.heap.size (w4.drewN m5) w6 := HB6.out.mono HLE.out
        have h3 : Below w.heap.size w6 ((w6.alloc (.cells #[.string (kn 4)] 9)).drewN m7) := ((Fr.alloc (fun _ => False) w6 _).thenDrewN m7).below (Nat.le_trans HLE.out h2.size) (fun _ h => h.elim)
        exact ((HB4.out.trans h1).trans h2).trans h3
      have HD7 := Lib.hid hd7
      have HB7 := Lib.hid hb7
      clear hd7 hb7
      go_wp2_with fail
      go_loopw [79] (fun i we => ∃ (j : Nat) (K : DM), i = .int .i64 j ∧ j ≤ 4 ∧ Hid (DAt we d K) ∧ Hid (Gone N K j) ∧ Hid (Like K (Lk 5)) ∧ Hid (∀ q, Bs (dictL d K) q → w.heap.size ≤ q) ∧ Hid (Below w.heap.size w we)) (fun i _ => 4 - (intOf i).toNat)
      case atStart => exact ⟨0, N, rfl, by omega, HD7, gone_zero N, HL, HBN, HB7⟩
      case round =>
        obtain ⟨j, K, rfl, hj, HN1, HN2, HN3, HN4, HN5⟩ := hrel
        by_cases hjs : j < 4
        · have HG := Lib.hid (Di.get_turn wr d K (kn 0) (kn_size 0) HN1.out)
          go_wp2_with fail
          refine HG.out.mono ?_
          rintro e w9 ⟨rfl, T⟩
          have HT := Lib.hid T
          clear T HG
          go_wp2
          go_roundw
          case rel =>
            refine ⟨j + 1, stepM K, by go_num, by omega, HT.out.at_, gone_step HN2.out HN1.out.inv, HN3.out.step, fun q hq => ?_, HN5.out.trans (HT.out.fr.below HN5.out.size HN4.out)⟩
            exact (HT.out.bs q hq).elim (HN4.out q) (fun h => Nat.le_trans HN5.out.size h)
          case measure => simp [intOf]; omega
        · have hj4 : j = N.old.length := by rw [HZ.out.1]; omega
          have hg := HN2.out
          rw [hj4] at hg
          obtain ⟨q1, q2, q3⟩ := gone_end hg HN1.out.inv
          have hsz : Sz K 8 0 0 := by
            rcases q3 with ⟨h1, h2⟩ | ⟨h1, h2⟩
            · have := HZ.out.2.1; rw [h1] at this; simp at this
            · exact ⟨by rw [h2, HZ.out.2.1], by rw [q1]; rfl, q2⟩
          have HZ8 := Lib.hid hsz
          have HC := Lib.hid (Di.clear_any)
          clear q1 q2 q3 hsz hg hj4
          go_wp2_with fail
          refine (sizes_sz HN1.out HZ8.out).mono ?_
          rintro e w9 ⟨rfl, m9, rfl⟩
          go_wp2_with fail
          refine (len_like _ d K (Lk 5) 5 (HN1.out.drewN m9) HN3.out (by decide) (by rw [kn_len]; rfl)).mono ?_
          rintro e w' ⟨rfl, rfl⟩
          go_wp2_with fail
          refine (Di.clear_any _ d K (HN1.out.drewN m9)).mono ?_
          rintro e w10 ⟨rfl, T⟩
          have HB10 := Lib.hid ((HN5.out.trans ((Fr.drewN (fun _ => False) wr m9).below HN5.out.size (fun _ h => h.elim))).trans (T.fr.below HN5.out.size HN4.out))
          have HD10 := Lib.hid T.at_
          have hcz : Sz (clearM K) 0 0 0 := ⟨rfl, rfl, rfl⟩
          have HCZ := Lib.hid hcz
          have hcl : Like (clearM K) [] := ⟨(clear_inv K).1, by rw [(clear_inv K).2]; exact List.Perm.refl _⟩
          have HCL := Lib.hid hcl
          clear T hcz hcl HC
          go_wp2_with fail
          refine (sizes_sz HD10.out HCZ.out).mono ?_
          rintro e w11 ⟨rfl, m11, rfl⟩
          go_wp2_with fail
          refine (len_like _ d (clearM K) [] 0 (HD10.out.drewN m11) HCL.out (by decide) rfl).mono ?_
          rintro e w' ⟨rfl, rfl⟩
          go_wp2
          go_ret
          exact ⟨rfl, HB10.out.trans ((Fr.drewN (fun _ => False) w10 m11).below HB10.out.size (fun _ h => h.elim))⟩
set_option maxRecDepth 100000 in
theorem dictKnown_lifted (os : Os) (started : os.Started) (H : Type) (enc : TypeId × Value → H) :
    ReturnsInHanded {} Try.checked os 8 .any (Rows.dictKnownSpec.pre6 enc Try.prog Try.f8 Rows.dictKnownRow.domain false) (Rows.dictKnownSpec.post enc Try.prog Try.f8 false true false false) := by
  refine returnsInHanded_of_change_sized (C := Try.checked) own started (by kernel_rfl) Try.func8
    (ChangeSpec.witness6 (enc := enc) (C := Try.checked) false ⟨#[], #[], []⟩ 8 (by kernel_rfl) (by kernel_rfl) (by kernel_rfl) (by kernel_rfl)) ?_
  intro W base args ds gs before hval0 hW hcnd hsz0 _
  have hval : ∀ (j : Nat) t v, Try.f8.params[j]? = some t → args[j]? = some v → Value.okWide Try.prog W .any base t v := hval0
  have hW' := hW
  obtain ⟨p, q, hA0, hV, rfl, hfz, hnd⟩ := hW
  have hA : DataW.TrodAll enc Try.prog W 0 (fun _ => true) true Try.f8.params.toList args.toList ds p := hA0
  rw [Try.params8] at hA hval
  obtain ⟨hargs, rfl, rfl⟩ := trodAll_nil hA
  obtain rfl : args = #[] := by cases args; simp_all
  obtain ⟨rfl, rfl⟩ := trodVars_none hV
  clear hsz0
  clear hA0 hval0
  refine (dictKnown_walk W ).mono fun e W' ⟨he, bel⟩ => ?_
  subst he
  exact ⟨_, rfl, law_post laidOut Try.underlying4 (by kernel_rfl) rfl (by kernel_rfl) hW' rfl bel⟩

theorem dictKnown_holds : Rows.DictKnownSaid :=
  OpenClaim.holds_of_wide 8 Try.f8 rfl rfl rfl rfl rfl rfl rfl ⟨rfl, rfl, rfl, rfl, rfl⟩ rfl rfl rfl rfl rfl (by kernel_rfl) Try.func8 (by kernel_rfl)
    (of_decide_eq_true (by kernel_rfl)) (by unfold Func.isWrapper; rw [if_neg (of_decide_eq_false (by kernel_rfl))]; exact ⟨rfl, rfl⟩)
    (fun os started H enc _ => dictKnown_lifted os started H enc)
end Go.Proofs.Ytkecipdonamjaaa
