/- Union; flocks of given texts. No condition. -/
import Derived.Test.YtgomilodeaafdaaBf
import Derived.Test.YtgomilodeaafdaaBr
import Derived.Test.YtgomilodeaafdaaBh
namespace Go.Proofs.Ytgomilodeaafdaa
open Go.RowKit Go.Maps Go.Sort
theorem cnt_collected {D0 : DataW Unit} {S ks : List ByteArray} (hs : CntMap D0 S ks) {left : Lit → Bool} {ss : List (List UInt8)} (hC : Collected D0 left ss) (hl : ∀ kl, left kl = false) : ss.Perm (ks.map bytesL) := by
  refine (List.perm_ext_iff_of_nodup hC.1 (List.pairwise_map.2 (hs.nodup.imp (fun h e => h (bytes_ext e))))).2 fun x => ?_
  rw [hC.2 x, hl, List.mem_map]
  have e : Maps.has D0 (.string x) = inL (ofB x) ks := hs.has (ofB x)
  rw [e]
  constructor
  · rintro ⟨h, _⟩
    exact ⟨ofB x, inL_iff.1 h, rfl⟩
  · rintro ⟨k, hk, rfl⟩
    exact ⟨inL_iff.2 (by rw [ofB_bytes]; exact hk), rfl⟩
/-- a rising list of those in a list, each once -/
def RisesOf (S l : List ByteArray) : Prop := l.Pairwise ltS ∧ ∀ x, x ∈ l ↔ x ∈ S
theorem ltS_nodup {l : List ByteArray} (h : l.Pairwise ltS) : l.Nodup := by
  refine List.Pairwise.imp ?_ h
  intro a b h e
  subst e
  exact List.lt_irrefl _ h
theorem RisesOf.one {S T l l' : List ByteArray} (h : RisesOf S l) (h' : RisesOf T l') (hST : ∀ x, x ∈ S ↔ x ∈ T) : l = l' :=
  ltS_one ((List.perm_ext_iff_of_nodup (ltS_nodup h.1) (ltS_nodup h'.1)).2 fun x => by rw [h.2, h'.2, hST]) h.1 h'.1
def UniPost (w : World) (S : List ByteArray) (e : Ending) (w' : World) : Prop := ∃ v l, e = .returned v ∧ RisesOf S l ∧ l.length ≤ S.length ∧ w'.ownsRow w.heap.size 9 1 v l.length (l.map .string) ∧ Fr (fun _ => False) w w'
theorem nodup_len_le {α : Type} : ∀ {l S : List α}, l.Nodup → (∀ x, x ∈ l → x ∈ S) → l.length ≤ S.length
  | [], _, _, _ => Nat.zero_le _
  | a :: l, S, hd, h => by
    obtain ⟨p, q, rfl⟩ := List.append_of_mem (h a (List.mem_cons_self ..))
    have hd' := List.nodup_cons.1 hd
    have := nodup_len_le (S := p ++ q) hd'.2 fun x hx => by
      have h1 := h x (List.mem_cons_of_mem _ hx)
      simp only [List.mem_append, List.mem_cons] at h1 ⊢
      rcases h1 with h1 | h1 | h1
      · exact .inl h1
      · exact absurd (h1 ▸ hx) hd'.1
      · exact .inr h1
    simp only [List.length_append, List.length_cons] at this ⊢
    omega
set_option maxRecDepth 100000 in
set_option maxHeartbeats 2000000 in
theorem union_any (w : World) (v : Value) (ps : List Value) (Ls : List (List ByteArray)) (h : FlRow w v ps Ls) (hS : Ls.flatten.length < 1099511627776) :
    Calls Try.prog 43 #[v] w (UniPost w Ls.flatten) := by
  have HCT := Lib.hid (counted_any w v ps Ls h (by omega))
  obtain ⟨va, vc, rfl⟩ := rd_sliceN h.rd
  obtain ⟨i0, hi, hz0, hz1, hz2⟩ := info_parts info_str
  have HI := Lib.hid hi
  have HZ0 := Lib.hid hz0
  have HZ1 := Lib.hid hz1
  have HZ2 := Lib.hid hz2
  have HSS := Lib.hid hS
  clear h hi hz0 hz1 hz2 hS
  go_enter Try.func43, Try.ntmps43
  go_wp2_with fail
  refine HCT.out.mono ?_
  rintro e w1 ⟨m, rfl, hm, ⟨D0, ks, hown, hset⟩, hf1⟩
  have hbl := hown.lt
  have hsz : Maps.size D0 = ks.length := hset.size
  have hkl : ks.length ≤ Ls.flatten.length := nodup_len_le hset.nodup (fun x hx => (hset.mem x).1 hx)
  have HSET := Lib.hid hset
  have HSZ := Lib.hid hsz
  have HKL := Lib.hid hkl
  have HF1 := Lib.hid hf1
  obtain ⟨N, hN⟩ : ∃ N, Ls.flatten.length = N := ⟨_, rfl⟩
  have HN := Lib.hid hN
  rw [hN] at hown hkl
  clear hset hsz hf1 hN HCT
  go_wp2_with (at_range; refine wpList_range_own _ rfl _ 157 rfl 9 3 lawS Try.underlying157 _ m N D0 rfl hown ?_; intro w0 hrg0 hg0 hs0)
  go_simp
  go_loopw [3] (fun v wr => ∃ (left : Lit → Bool) (cnt : Nat) (ss : List (List UInt8)), wr.ranges Try.prog 9 PI m w1.heap.size N D0 left cnt ∧ ss.length + cnt ≤ ks.length ∧
      wr.ownsRow w1.heap.size 9 1 v ss.length (ss.map encStr) ∧ Collected D0 left ss ∧ Below w1.heap.size w1 wr)
    (fun _ wr => wr.rangeLeft m w1.heap.size)
  case atStart =>
    exact ⟨_, _, [], hrg0, by rw [HSZ.out]; simp, World.ownsRow_nil _ _ _ _, Collected.start D0, (Below.refl _ _).grown hg0 (Nat.le_refl _) (fun j hj => by cases hj)⟩
  case round =>
    obtain ⟨left, cnt, ss, hrg, hcs, hrow, hC, hnx⟩ := hrel
    clear hrg0 hg0 hs0
    go_wp2_with (at_next; refine wpList_next_ranges _ rfl _ rfl 9 lawS PI encStr (fun v : Value => v) (fun key kl hk => by obtain ⟨x, hx, _⟩ := Maps.keyOf_str Try.underlying9 hk; exact ⟨x, hx⟩) (fun v y _ => ⟨v, rfl⟩) m w1.heap.size N _ _ _ rfl hrg ?_ ?_)
    · intro hc0 hl0
      have HPM := Lib.hid (cnt_collected HSET.out hC hl0)
      have HB := Lib.hid hnx
      obtain ⟨l, hl⟩ : ∃ l, l = ss.map ofB := ⟨_, rfl⟩
      have hss : ss = l.map bytesL := by rw [hl, List.map_map, show (bytesL ∘ ofB) = id from funext fun b => bytes_ofB b, List.map_id]
      have hlp : l.Perm ks := by
        have := HPM.out.map ofB
        rw [List.map_map, show (ofB ∘ bytesL) = id from funext ofB_bytes, List.map_id] at this
        rw [hl]; exact this
      have hr2 : wr.ownsRow w1.heap.size 9 1 u3 l.length (l.map .string) := by
        rw [hss, List.length_map, List.map_map, show (encStr ∘ bytesL) = Value.string from funext fun k => by show Value.string (ofB (bytesL k)) = _; rw [ofB_bytes]] at hrow
        exact hrow
      have hll := hlp.length_eq
      have hnn : l.length < 4611686018427387904 := by have := HSS.out; have := HKL.out; omega
      have HSO := Lib.hid (sortS_any wr _ u3 l hr2 hnn)
      have HRS : Hid (RisesOf Ls.flatten (sortS l)) := ⟨sortS_rises (hlp.nodup_iff.2 HSET.out.nodup), fun x => by rw [(sortS_perm l).mem_iff, hlp.mem_iff]; exact HSET.out.mem x⟩
      have HLL : Hid ((sortS l).length ≤ Ls.flatten.length) := by show _ ≤ _; rw [sortS_len, hll]; exact HKL.out
      have HOB : Hid (∀ i, u3.ownBlock = some i → w1.heap.size ≤ i) := fun i hi => (own_blk hr2 hi).1
      clear hrow hcs hnx hrg hC hl0 hss hl hlp hll hnn hr2
      go_wp2_with fail
      refine HSO.out.mono ?_
      rintro e w' ⟨rfl, h1, h2⟩
      have HBX := Lib.hid (HF1.out.trans ((fr_bel HB.out).wide h2 (fun i hi => .inr (HOB.out i hi))) (fun _ h _ => h))
      have HRX := Lib.hid (ow_base h1 HF1.out.size)
      clear h1 h2
      go_wp2_with fail
      go_ret
      exact ⟨_, sortS l, rfl, HRS.out, HLL.out, by rw [sortS_len]; exact HRX.out, HBX.out⟩
    · intro x c kl yd yp w2 cnt2 hkey hlk hv hat hrg2 hlt hg2 hs2 hen
      obtain ⟨x', ex, rfl, _⟩ := Maps.keyOf_str Try.underlying9 hkey
      obtain rfl : x = x' := encStr_inj ex
      have hrow2 := hrow.kept hg2 (Or.inr (row_ne_iter hrow hrg).symm)
      have HB2 := Lib.hid (hnx.grown hg2 hnx.size (fun j hj => by cases hj; exact Nat.le_refl _))
      have HR2 := Lib.hid hrg2
      have HRW := Lib.hid hrow2
      have HST := Lib.hid (hC.step hlk hat)
      have HRG := Lib.hid hrg
      have hkn : ks.length ≤ 1099511627776 := by have := HSS.out; have := HKL.out; omega
      clear hs2 hrow hC hlk hat hkey hv hg2 hnx hrg hrg2 hrow2
      go_wp2_with (at_builtin; refine wpList_append_own _ rfl (.tmp 12) (.tmp 14) 39 rfl w1.heap.size 9 i0 (.string ⟨#[]⟩) 1 16 Try.underlying39 HI.out HZ0.out HZ1.out HZ2.out rfl (by decide) _ _ _ rfl (HRW.out.alloc _) ⟨w2.heap.size, 0, none⟩ 1 1 [encStr x] rfl rfl (cell_one_new _ _ _) (by simp [Value.oneCell', encStr]) (by unfold maxLen; omega) (by omega) (by have := HB2.out.size; simp; omega) ?_; intro v' w3 hown' hg3 hnil3)
      have hrg3 := (HR2.out.alloc _).kept hg3 (row_ne_low HRW.out hbl) (row_ne_iter HRW.out HR2.out)
      have HR3 := Lib.hid hrg3
      have HO3 := Lib.hid hown'
      have HG3 := Lib.hid hg3
      clear hown' hg3 hnil3 hrg3
      go_roundw
      case rel =>
        exact ⟨_, cnt2, ss ++ [x], HR3.out, by simp; omega, by simpa using HO3.out, HST.out, (HB2.out.alloc HB2.out.size _).grown HG3.out (by have := HB2.out.size; simp; omega) (fun j hj => (HRW.out.lt j hj).1)⟩
      case measure => rw [HR3.out.left_eq, HRG.out.left_eq]; exact hlt
end Go.Proofs.Ytgomilodeaafdaa
namespace Go.Proofs.Ytgomilodeaafdaa
open Go.ChangeShapes Go.WideShapes Go.ChangeAt Go.RowKit Du
/-- texts added one by one -/
def addAll (S : List ByteArray) (A : List Me) : List Me := S.foldl (fun A x => setG A x ()) A
theorem addAll_snoc (S : List ByteArray) (x : ByteArray) (A : List Me) : addAll (S ++ [x]) A = setG (addAll S A) x () := by unfold addAll; rw [List.foldl_append]; rfl
theorem ks_set {A : List Me} {f x : ByteArray} : x ∈ ks (setG A f ()) ↔ x ∈ ks A ∨ x = f := by
  cases h : fdG f A with
  | none => rw [ks_new h, List.mem_append, List.mem_singleton]
  | some i =>
    rw [ks_old h]
    refine ⟨.inl, fun e => e.elim id fun e => ?_⟩
    subst e
    exact inL_iff.1 (by rw [show inL x (ks A) = (fdG x A).isSome from inL_fd, h]; rfl)
theorem ks_addAll (S : List ByteArray) : ∀ (A : List Me) (x : ByteArray), x ∈ ks (addAll S A) ↔ x ∈ ks A ∨ x ∈ S := by
  induction S with
  | nil => intro A x; simp [addAll]
  | cons y S ih =>
    intro A x
    show x ∈ ks (addAll S (setG A y ())) ↔ _
    rw [ih, ks_set, List.mem_cons, or_assoc]
theorem Fc.base {K : Nat} {w0 w1 w : World} {F : Nat → Prop} {r d : Nat} {M : DM} {A : List Me} (h : Fc K w1 w F r d M A) (hb : Below w0.heap.size w0 w1) : Fc K w0 w F r d M A :=
  ⟨h.ff.base hb.size, hb.trans (h.bel.mono hb.size), h.lens, h.few⟩
theorem Fc.mem {K : Nat} {w0 w : World} {F : Nat → Prop} {r d : Nat} {M : DM} {A : List Me} (h : Fc K w0 w F r d M A) : MemOf w (.pointer (some ⟨r, 0, none⟩)) (sortS (ks A)) :=
  .inr ⟨_, _, _, _, _, _, rfl, h.ff, sortS_perm _, sortS_rises h.ff.like.nodup⟩
theorem rises_sort {A : List Me} (h : (ks A).Nodup) : RisesOf (ks A) (sortS (ks A)) := ⟨sortS_rises h, fun x => (sortS_perm _).mem_iff⟩
theorem Fc.memL {K : Nat} {w0 w : World} {F : Nat → Prop} {r d : Nat} {M : DM} {A : List Me} (h : Fc K w0 w F r d M A) {L : List ByteArray} (hp : L.Perm (ks A)) (hl : L.Pairwise ltS) : MemOf w (.pointer (some ⟨r, 0, none⟩)) L :=
  .inr ⟨_, _, _, _, _, _, rfl, h.ff, hp, hl⟩
set_option maxRecDepth 100000 in
set_option maxHeartbeats 2000000 in
theorem of_any (w : World) (v : Value) (S : List ByteArray) (hr : RdC w 1 v S.length (S.map .string)) (hs : ∀ x ∈ S, x.size ≤ 1048576) (hn : S.length ≤ 1000) :
    Calls Try.prog 69 #[v] w fun e w' => ∃ r d M F, e = .returned (.pointer (some ⟨r, 0, none⟩)) ∧ Fc S.length w w' F r d M (addAll S []) := by
  have HR := Lib.hid hr
  have HS := Lib.hid hs
  obtain ⟨-, a1, c1, rfl, -⟩ := hr
  clear hs
  go_enter Try.func69, Try.ntmps69
  go_wp2_with fail
  refine (fc_new w w 9 (Below.refl _ _)).mono ?_
  rintro e w1 ⟨r, d, M0, F0, rfl, h0, -, -, -⟩
  have H0 : Hid (Fc 0 w w1 F0 r d M0 (addAll (S.take 0) [])) := h0
  clear h0
  go_wp2_with fail
  go_loopw [9] (fun i wr => ∃ (k : Nat) (F : Nat → Prop) (M : DM), i = .int .i64 k ∧ k ≤ S.length ∧ Hid (Fc k w wr F r d M (addAll (S.take k) []))) (fun i _ => S.length - (intOf i).toNat)
  case atStart => exact ⟨0, F0, M0, rfl, by omega, H0⟩
  case round =>
    obtain ⟨k, F, M, rfl, hk, HD⟩ := hrel
    obtain ⟨wo, rfl⟩ : ∃ wo, wo = wr := ⟨_, rfl⟩
    clear H0
    by_cases hlt : k < S.length
    · obtain ⟨g1, o1, rfl, c1⟩ := texts_at (HR.out.below HD.out.bel) k hlt
      have hsz := HS.out S[k] (List.getElem_mem hlt)
      obtain ⟨x, hx⟩ : ∃ x, S[k] = x := ⟨_, rfl⟩
      rw [hx] at c1 hsz
      have hnx : S.take k ++ [x] = S.take (k + 1) := by rw [List.take_succ_eq_append_getElem hlt, hx]
      have HNX := Lib.hid hnx
      have HZ := Lib.hid hsz
      have b0 : (0 : Int) ≤ (k : Int) := by omega
      have b1 : (k : Int) < (S.length : Int) := by omega
      clear hx hnx hsz
      go_wp2_with fail
      refine (fc_add w wo k F r d M _ x HD.out HZ.out (by omega)).mono ?_
      rintro e w4 ⟨rfl, M', h4, -, -⟩
      rw [← addAll_snoc, HNX.out] at h4
      have H4 := Lib.hid h4
      clear h4
      go_wp2_with fail
      go_roundw
      case rel => exact ⟨k + 1, _, M', by go_num, by omega, H4⟩
      case measure => simp [intOf]; omega
    · obtain rfl : k = S.length := by omega
      rw [List.take_length] at HD
      go_wp2_with fail
      go_ret
      exact ⟨r, d, M, F, rfl, HD.out⟩
/-- flocks beside each other, in a row that is written down -/
theorem row_lit (w : World) (ps : List Value) (Ls : List (List ByteArray)) (hm : ps.length ≤ maxLen) (hl : Ls.length = ps.length) (h : ∀ (i : Nat) (p : Value) (L : List ByteArray), ps[i]? = some p → Ls[i]? = some L → MemOf w p L) :
    FlRow (w.alloc (.cells ps.toArray 67)) (.slice (some ⟨w.heap.size, 0, none⟩) ps.length ps.length) ps Ls := by
  have h1 : RdC (w.alloc (.cells ps.toArray 67)) 1 (.slice (some ⟨w.heap.size, 0, none⟩) ps.length ps.length) ps.length ps.toArray.toList :=
    RdC.of_owns (World.ownsRow_lit (base := w.heap.size) (e := 67) (size := 1) w ps.toArray ps.length (Nat.le_refl _) hm (by simp))
  exact ⟨h1, hl, fun i p L h2 h3 => (h i p L h2 h3).quiet (Fr.alloc _ _ _)⟩
/-- a list of texts handed back: read only -/
def RdPost (w : World) (l : List ByteArray) (e : Ending) (w' : World) : Prop := ∃ a c, e = .returned (.slice a l.length c) ∧ RdC w' 1 (.slice a l.length c) l.length (l.map .string) ∧ Fr (fun _ => False) w w'
theorem union_lit (w : World) (ps : List Value) (Ls : List (List ByteArray)) (L : List ByteArray) (hm : ps.length ≤ maxLen) (hl : Ls.length = ps.length) (h : ∀ (i : Nat) (p : Value) (L : List ByteArray), ps[i]? = some p → Ls[i]? = some L → MemOf w p L)
    (hs : Ls.flatten.length < 1099511627776) (hL : RisesOf Ls.flatten L) :
    Calls Try.prog 43 #[.slice (some ⟨w.heap.size, 0, none⟩) ps.length ps.length] (w.alloc (.cells ps.toArray 67)) (RdPost w L) := by
  refine (union_any _ _ ps Ls (row_lit w ps Ls hm hl h) hs).mono ?_
  rintro e w' ⟨v, l, rfl, h1, -, h2, h3⟩
  obtain rfl : l = L := h1.one hL (fun _ => Iff.rfl)
  obtain ⟨a, c, rfl⟩ := ow_sliceN h2
  exact ⟨a, c, rfl, RdC.of_owns h2, (Fr.alloc (fun _ => False) w _).trans h3 (fun _ h _ => h)⟩
theorem inter_lit (w : World) (ps : List Value) (Ls : List (List ByteArray)) (L : List ByteArray) (hm : ps.length ≤ maxLen) (hl : Ls.length = ps.length) (h : ∀ (i : Nat) (p : Value) (L : List ByteArray), ps[i]? = some p → Ls[i]? = some L → MemOf w p L)
    (hs : Ls.flatten.length < 1099511627776) (hL : interL Ls = L) :
    Calls Try.prog 44 #[.slice (some ⟨w.heap.size, 0, none⟩) ps.length ps.length] (w.alloc (.cells ps.toArray 67)) (RdPost w L) := by
  subst hL
  refine (inter_any _ _ ps Ls (row_lit w ps Ls hm hl h) (by omega)).mono ?_
  rintro e w' ⟨v, rfl, h2, h3⟩
  obtain ⟨a, c, rfl⟩ := ow_sliceN h2
  exact ⟨a, c, rfl, RdC.of_owns h2, (Fr.alloc (fun _ => False) w _).trans h3 (fun _ h _ => h)⟩
theorem diff_lit (w : World) (ps : List Value) (Ls : List (List ByteArray)) (L : List ByteArray) (hm : ps.length ≤ maxLen) (hl : Ls.length = ps.length) (h : ∀ (i : Nat) (p : Value) (L : List ByteArray), ps[i]? = some p → Ls[i]? = some L → MemOf w p L)
    (hs : Ls.flatten.length < 1099511627776) (hL : diffL Ls = L) :
    Calls Try.prog 45 #[.slice (some ⟨w.heap.size, 0, none⟩) ps.length ps.length] (w.alloc (.cells ps.toArray 67)) (RdPost w L) := by
  subst hL
  refine (diff_any _ _ ps Ls (row_lit w ps Ls hm hl h) (by omega)).mono ?_
  rintro e w' ⟨v, rfl, h2, h3⟩
  obtain ⟨a, c, rfl⟩ := ow_sliceN h2
  exact ⟨a, c, rfl, RdC.of_owns h2, (Fr.alloc (fun _ => False) w _).trans h3 (fun _ h _ => h)⟩
/-- texts that are written down -/
theorem txt_lit (w : World) (l : List ByteArray) (hm : l.length ≤ maxLen) : RdC (w.alloc (.cells (l.map Value.string).toArray 9)) 1 (.slice (some ⟨w.heap.size, 0, none⟩) l.length l.length) l.length (l.map .string) :=
  RdC.of_owns (World.ownsRow_lit (base := w.heap.size) (e := 9) (size := 1) w (l.map Value.string).toArray l.length (Nat.le_refl _) hm (by simp))
theorem same_lit (w : World) (v : Value) (l1 l2 : List ByteArray) (h : RdC w 1 v l1.length (l1.map .string)) (hm : l2.length ≤ maxLen) (b : Bool) (hb : decide (l1 = l2) = b) :
    Calls Try.prog 46 #[v, .slice (some ⟨w.heap.size, 0, none⟩) l2.length l2.length] (w.alloc (.cells (l2.map Value.string).toArray 9)) fun e w' => e = .returned (.bool b) ∧ Fr (fun _ => False) w w' := by
  subst hb
  have hf : Fr (fun _ => False) w (w.alloc (.cells (l2.map Value.string).toArray 9)) := Fr.alloc _ _ _
  refine (same10_any _ v _ l1 l2 (h.fr hf (fun _ _ h => h)) (txt_lit w l2 hm)).mono ?_
  rintro e w' ⟨rfl, m, rfl⟩
  exact ⟨rfl, hf.trans (Fr.drewN _ _ _) (fun _ h _ => h)⟩
end Go.Proofs.Ytgomilodeaafdaa
