/- The document's flock. No condition. -/
import Derived.Test.YtgomilodeaafdaaCb
import Derived.Test.YtgomilodeaafdaaBf
namespace Go.Proofs.Ytgomilodeaafdaa
open Go.RowKit
/-- the document's flock: its members in l, and a dict of the same -/
structure RefFx (w : World) (B mr : Nat) (F : Nat → Prop) (N : NM) (L : Pl) (l : List ByteArray) (p : Nat) (Fd : Nat → Prop) (X : RB) (av : Value) : Prop where
  blk : w.heap[mr]? = some (.cells #[.int .u64 (wd N.seed), av, .pointer (some ⟨p, 0, none⟩)] 154 (0, 0))
  fm : F mr
  nm : ¬ Fd mr
  d : RefD w B p Fd N L X
  fd : ∀ k, Fd k → F k
  row : w.ownsRow B 9 1 av l.length (l.map .string)
  fa : ∀ g, av.ownBlock = some g → F g
  na : ∀ g, av.ownBlock = some g → ¬ Fd g
  lt : ∀ k, F k → B ≤ k ∧ k < w.heap.size
section
variable {w w' : World} {B B' mr p : Nat} {F Fd T : Nat → Prop} {N N' : NM} {L L' : Pl} {l l' : List ByteArray} {X : RB} {av : Value}
theorem RefFx.other (h : RefFx w B mr F N L l p Fd X av) (hf : Fr T w w') (hd : ∀ k, F k → ¬ T k) : RefFx w' B mr F N L l p Fd X av :=
  ⟨(hf.block mr (h.lt mr h.fm).2 (hd mr h.fm)).trans h.blk, h.fm, h.nm, h.d.other hf (fun k hk => hd k (h.fd k hk)), h.fd, ow_fr h.row hf (fun g hg => hd g (h.fa g hg)), h.fa, h.na, fun k hk => ⟨(h.lt k hk).1, Nat.lt_of_lt_of_le (h.lt k hk).2 hf.size⟩⟩
theorem RefFx.quiet (h : RefFx w B mr F N L l p Fd X av) (hf : Fr (fun _ => False) w w') : RefFx w' B mr F N L l p Fd X av := h.other hf (fun _ _ h => h)
theorem RefFx.base (h : RefFx w B mr F N L l p Fd X av) (hb : B' ≤ B) : RefFx w B' mr F N L l p Fd X av :=
  ⟨h.blk, h.fm, h.nm, h.d.base hb, h.fd, ow_base h.row hb, h.fa, h.na, fun k hk => ⟨Nat.le_trans hb (h.lt k hk).1, (h.lt k hk).2⟩⟩
theorem RefFx.wide {F' : Nat → Prop} (h : RefFx w B mr F N L l p Fd X av) (hF : ∀ k, F k → F' k) (hl : ∀ k, F' k → B ≤ k ∧ k < w.heap.size) : RefFx w B mr F' N L l p Fd X av :=
  ⟨h.blk, hF mr h.fm, h.nm, h.d, fun k hk => hF k (h.fd k hk), h.row, fun g hg => hF g (h.fa g hg), h.na, hl⟩
theorem RefFx.cells (h : RefFx w B mr F N L l p Fd X av) : w.cell? ⟨mr, 0, none⟩ = some (.int .u64 (wd N.seed)) ∧ w.cell? ⟨mr, 1, none⟩ = some av ∧ w.cell? ⟨mr, 2, none⟩ = some (.pointer (some ⟨p, 0, none⟩)) :=
  ⟨cell_of_blk h.blk 0, cell_of_blk h.blk 1, cell_of_blk h.blk 2⟩
theorem RefFx.bm (h : RefFx w B mr F N L l p Fd X av) : BT 154 w mr := ⟨_, h.blk⟩
/-- its dict is turned -/
theorem RefFx.turn (h : RefFx w B mr F N L l p Fd X av) (hB : B ≤ w.heap.size) (ht : RdTo w B p Fd N' L' w') (hs : N'.seed = N.seed) : ∃ X', RefFx w' B mr (Grew F w w') N' L' l p (Grew Fd w w') X' av ∧ Fr F w w' := by
  obtain ⟨X', hd, hf⟩ := ht
  have hF : Fr F w w' := hf.mono (fun i hi _ => h.fd i hi)
  refine ⟨X', ⟨?_, .inl h.fm, fun e => ?_, hd, fun k hk => hk.imp (h.fd k) id, ow_fr h.row hf (fun g hg => h.na g hg), fun g hg => .inl (h.fa g hg), fun g hg e => ?_, fun k hk => ?_⟩, hF⟩
  · rw [hs]; exact (hf.block mr (h.lt mr h.fm).2 h.nm).trans h.blk
  · rcases e with e | e
    · exact h.nm e
    · have := (h.lt mr h.fm).2; omega
  · rcases e with e | e
    · exact h.na g hg e
    · have := (h.lt g (h.fa g hg)).2; omega
  · rcases hk with hk | hk
    · exact ⟨(h.lt k hk).1, Nat.lt_of_lt_of_le (h.lt k hk).2 hF.size⟩
    · exact ⟨Nat.le_trans hB hk.1, hk.2⟩
/-- another list of members, in memory newer than b -/
theorem RefFx.all (h : RefFx w B mr F N L l p Fd X av) {b : Nat} (hb : B ≤ b) (hF : ∀ k, F k → k < b) {av' : Value} (hr : w.ownsRow b 9 1 av' l'.length (l'.map .string)) :
    RefFx (w.setCell ⟨mr, 1, none⟩ av') B mr (fun k => F k ∨ b ≤ k ∧ k < w.heap.size) N L l' p Fd X av' := by
  have hf := Fr.setCell w ⟨mr, 1, none⟩ av'
  refine ⟨?_, .inl h.fm, h.nm, h.d.other hf (fun k hk e => h.nm (by rw [← show k = mr from e]; exact hk)), fun k hk => .inl (h.fd k hk), ?_, fun g hg => .inr ⟨(own_blk hr hg).1, (own_blk hr hg).2.1⟩, fun g hg e => ?_, fun k hk => ?_⟩
  · rw [heap_setCell_same w mr 1 _ _ av' h.blk]
    rfl
  · exact ow_base (ow_fr hr hf (fun g hg e => (own_blk hr hg).2.2.ne h.bm (by decide) e)) hb
  · have := (own_blk hr hg).1
    have := hF g (h.fd g e)
    omega
  · rw [World.size_setCell]
    rcases hk with hk | hk
    · exact h.lt k hk
    · exact ⟨by omega, hk.2⟩
end
theorem rfNew_any (seed : UInt64) (w : World) : Calls Try.prog 35 #[.int .u64 (wd seed)] w fun e w' =>
    ∃ mr p Fd X, e = .returned (.pointer (some ⟨mr, 0, none⟩)) ∧ RefFx w' w.heap.size mr (fun k => w.heap.size ≤ k ∧ k < w'.heap.size) ⟨seed, [], [], 0⟩ [] [] p Fd X (.slice none 0 0) ∧ Fr (fun _ => False) w w' := by
  have HN := fun w => Lib.hid (rdNew_any seed w)
  go_enter Try.func35, Try.ntmps35
  go_wp2_with (refine (HN _).out.mono ?_; rintro e w1 ⟨rfl, rfl⟩)
  go_ret
  have h0 := rd_new seed w
  refine ⟨w.heap.size + 1, w.heap.size, _, _, rfl, ⟨?_, ⟨by omega, by simp⟩, fun e => by have h1 : w.heap.size + 1 = w.heap.size := e; omega, h0.other (Fr.alloc (fun _ => False) _ _) (fun _ _ h => h), fun k hk => ?_, World.ownsRow_nil _ _ _ _, fun g hg => (by cases hg), fun g hg => (by cases hg), fun k hk => hk⟩, ?_⟩
  · have h := alloc_new (w.alloc (rdO seed 0 ⟨0, [], 0, [], .slice none 0 0, .slice none 0 0⟩)) (.cells #[.int .u64 (wd seed), .slice none 0 0, .pointer (some ⟨w.heap.size, 0, none⟩)] 154)
    rw [World.size_alloc] at h
    exact h
  · have h1 : k = w.heap.size := hk
    subst h1
    exact ⟨Nat.le_refl _, by simp; omega⟩
  · exact (Fr.alloc (fun _ => False) w _).trans (Fr.alloc (fun _ => False) _ _) (fun _ h _ => h)
section
variable (w : World) (B mr p : Nat) (F Fd : Nat → Prop) (N : NM) (L : Pl) (l : List ByteArray) (X : RB) (av : Value) (key : ByteArray)
theorem rfLen_any (h : RefFx w B mr F N L l p Fd X av) : Calls Try.prog 112 #[.pointer (some ⟨mr, 0, none⟩)] w fun e w' => e = .returned (.int .i64 l.length) ∧ w = w' := by
  have c1 := h.cells.2.1
  obtain ⟨a, c, rfl⟩ := ow_sliceN h.row
  clear h
  go_enter Try.func112, Try.ntmps112
  go_wp2
  go_ret
  exact ⟨rfl, rfl⟩
/-- what place tells -/
def PlPost (l : List ByteArray) (key : ByteArray) (w : World) (e : Ending) (w' : World) : Prop := ∃ i : Nat, PlaceAt l key i ∧ e = .returned (.tuple #[.int .i64 i, .bool (decide (l[i]? = some key))]) ∧ w = w'
set_option maxHeartbeats 1000000 in
theorem rfPlace_any (h : RefFx w B mr F N L l p Fd X av) :
    Calls Try.prog 116 #[.pointer (some ⟨mr, 0, none⟩), .string key] w (PlPost l key w) := by
  have c1 := h.cells.2.1
  have hr := RdC.of_owns h.row
  obtain ⟨a, c, rfl⟩ := ow_sliceN h.row
  have hlm := hr.len
  unfold maxLen at hlm
  have HR := Lib.hid hr
  clear h hr
  go_enter Try.func116, Try.ntmps116
  go_wp2_with fail
  go_loop [13] (fun i => ∃ k : Nat, k ≤ l.length ∧ i = .int .i64 k ∧ Hid (∀ x ∈ l.take k, ltS x key)) (fun i => l.length - (intOf i).toNat)
  case atStart => exact ⟨0, Nat.zero_le _, rfl, fun x hx => by simp at hx⟩
  case round =>
    obtain ⟨k, hk, rfl, HN⟩ := hrel
    by_cases hlt : k < l.length
    · obtain ⟨g, off, rfl, hc⟩ := rd_text HR.out k hlt
      obtain ⟨x, hx⟩ : ∃ x, l[k] = x := ⟨_, rfl⟩
      rw [hx] at hc
      have hxk : l[k]? = some x := by rw [List.getElem?_eq_getElem hlt, hx]
      have HX := Lib.hid hxk
      have b0 : (0 : Int) ≤ (k : Int) := by omega
      have b1 : (k : Int) < (l.length : Int) := by omega
      have htk : l.take (k + 1) = l.take k ++ [x] := by rw [List.take_succ_eq_append_getElem hlt, hx]
      have HTK := Lib.hid htk
      clear hx hxk htk
      by_cases hle : ltS x key
      · have k1 : Op.bytesLess x.toList key.toList = true := by rw [bytesLess_eq]; exact decide_eq_true hle
        have HLE := Lib.hid hle
        clear hle
        go_wp2_with fail
        go_round
        case rel =>
          refine ⟨k + 1, by omega, by go_num, fun y hy => ?_⟩
          rw [HTK.out] at hy
          rcases List.mem_append.1 hy with hy | hy
          · exact HN.out y hy
          · rw [List.mem_singleton.1 hy]; exact HLE.out
        case measure => simp [intOf]; omega
      · have k1 : Op.bytesLess x.toList key.toList = false := by rw [bytesLess_eq]; exact decide_eq_false hle
        have HLE := Lib.hid hle
        clear hle
        obtain ⟨b, hb⟩ : ∃ b, (x.toList == key.toList) = b := ⟨_, rfl⟩
        have HB : Hid (decide (l[k]? = some key) = b) := by
          show _ = _
          rw [← hb, str_beq, HX.out]
          exact decide_eq_decide.2 ⟨fun e => Option.some.inj e, fun e => congrArg some e⟩
        go_wp2_with fail
        go_ret2
        exact ⟨k, ⟨by omega, HN.out, fun y hy => by rw [HX.out] at hy; cases hy; exact HLE.out⟩, by rw [HB.out]; rfl, rfl⟩
    · obtain rfl : k = l.length := by omega
      go_wp2_with fail
      go_ret2
      refine ⟨l.length, ⟨Nat.le_refl _, HN.out, fun y hy => ?_⟩, ?_, rfl⟩
      · rw [List.getElem?_eq_none (Nat.le_refl _)] at hy
        cases hy
      · rw [List.getElem?_eq_none (Nat.le_refl _)]
        rfl
set_option maxRecDepth 100000 in
set_option maxHeartbeats 1000000 in
theorem rfMembers_any (h : RefFx w B mr F N L l p Fd X av) (hl : l.length ≤ 4398046511104) :
    Calls Try.prog 111 #[.pointer (some ⟨mr, 0, none⟩)] w fun e w' => ∃ v, e = .returned v ∧ RowS w.heap.size w' v l ∧ Fr (fun _ => False) w w' := by
  have hlt := (h.lt mr h.fm).2
  have c1 : (w.alloc (.cells #[] 9)).cell? ⟨mr, 1, none⟩ = some av := (Fr.alloc (fun _ => False) w _).cell h.cells.2.1 (fun h => h)
  have HR := Lib.hid (RdC.of_owns h.row)
  obtain ⟨a, c, rfl⟩ := ow_sliceN h.row
  obtain ⟨i0, hi, hz0, hz1, hz2⟩ := info_parts info_str
  have HL : Hid ((w.alloc (.cells #[] 9)).ownsRow w.heap.size 9 1 (.slice (some ⟨w.heap.size, 0, none⟩) 0 0) 0 []) := World.ownsRow_lit w #[] 0 (Nat.le_refl _) (by decide) rfl
  have HB : Hid (Below w.heap.size w (w.alloc (.cells #[] 9))) := (Below.refl _ _).alloc (Nat.le_refl _) _
  have HI := Lib.hid hi
  have HZ0 := Lib.hid hz0
  have HZ1 := Lib.hid hz1
  have HZ2 := Lib.hid hz2
  clear h hi hz0 hz1 hz2
  go_enter Try.func111, Try.ntmps111
  go_wp2_with (at_builtin; refine wpl_append2 rfl (.tmp 5) (.tmp 9) 39 rfl w.heap.size 9 i0 (.string ⟨#[]⟩) 1 16 Try.underlying39 HI.out HZ0.out HZ1.out HZ2.out rfl (by decide) _ 0 _ rfl HL.out (.slice a l.length c) l.length _ rfl (HR.out.below HB.out) (strs1 l) (by unfold maxLen; omega) (by omega) HB.out.size ?_; intro v' w8 hown hgrow hap; have HO8 := Lib.hid hown; have HG8 := Lib.hid hgrow; clear hown hgrow hap)
  go_ret
  have hbe := HB.out.trans ((Fr.of_grownBy HG8.out).below HB.out.size (fun g hg => (own_blk HL.out hg).1))
  exact ⟨_, rfl, rowS_app (S := []) HO8.out, fr_bel0 hbe⟩
set_option maxHeartbeats 1000000 in
theorem rfSample_any (h : RefFx w B mr F N L l p Fd X av) (n : UInt64) :
    Calls Try.prog 110 #[.pointer (some ⟨mr, 0, none⟩), .int .u64 (wd n)] w fun e w' => e = .returned (sampM l n) ∧ Fr (fun _ => False) w w' := by
  have c1 := h.cells.2.1
  have hr := RdC.of_owns h.row
  have HLN := Lib.hid (rfLen_any w B mr p F Fd N L l X av h)
  obtain ⟨a, c, rfl⟩ := ow_sliceN h.row
  have hlm := hr.len
  unfold maxLen at hlm
  have HR := Lib.hid hr
  clear h hr
  by_cases h0 : l.length = 0
  · have hl0 := List.length_eq_zero_iff.1 h0
    subst hl0
    have hs : sampM ([] : List ByteArray) n = .tuple #[.string ⟨#[]⟩, .bool false] := by unfold sampM; rw [if_pos rfl]
    rw [hs]
    clear hs h0
    go_enter Try.func110, Try.ntmps110
    go_wp2_with fail
    refine HLN.out.mono ?_
    rintro e w1 ⟨rfl, rfl⟩
    go_wp2_with fail
    go_ret2
    exact ⟨rfl, Fr.refl _ _⟩
  · have hpos : 0 < l.length := Nat.pos_of_ne_zero h0
    have g0 : ((l.length : Int) == 0) = false := beq_eq_false_iff_ne.2 (by omega)
    obtain ⟨k, hk⟩ : ∃ k, n.toNat % l.length = k := ⟨_, rfl⟩
    have hkl : k < l.length := by rw [← hk]; exact Nat.mod_lt _ hpos
    obtain ⟨g, off, rfl, hc⟩ := rd_text HR.out k hkl
    obtain ⟨x, hx⟩ : ∃ x, l[k] = x := ⟨_, rfl⟩
    rw [hx] at hc
    have hs : sampM l n = .tuple #[.string x, .bool true] := sampM_at hk (by rw [List.getElem?_eq_getElem hkl, hx])
    have hm : (wd n).tmod (l.length : Int) = (k : Int) := by
      show (((n.toNat : Nat) : Int)).tmod (l.length : Int) = _
      rw [← Int.ofNat_tmod, hk]
    have hu1 : IntKind.u64.wrap (l.length : Int) = (l.length : Int) := IntWalk.u64_in _ (by omega)
    have b0 : (0 : Int) ≤ (k : Int) := by omega
    have b1 : (k : Int) < (l.length : Int) := by omega
    have hn1 : ¬ (l.length : Int) = 0 := by omega
    have HS := Lib.hid hs
    clear hk hx hs
    rw [HS.out]
    go_enter Try.func110, Try.ntmps110
    go_wp2_with fail
    refine HLN.out.mono ?_
    rintro e w1 ⟨rfl, rfl⟩
    go_wp2_with fail
    go_quiet (fail)
    go_wp2
    go_ret2
    exact ⟨rfl, Fr.drewN _ _ _⟩
theorem place_bool {i : Nat} (hs : l.Pairwise ltS) (hp : l.Perm (L.map (·.1))) (h : PlaceAt l key i) : decide (l[i]? = some key) = (fdG key L).isSome := by
  by_cases hm : key ∈ l
  · rw [decide_eq_true ((place_in hs h).2 hm), fdG_keys.2 (hp.mem_iff.1 hm)]
  · rw [decide_eq_false (fun e => hm ((place_in hs h).1 e))]
    cases hf : (fdG key L).isSome with
    | false => rfl
    | true => exact absurd (hp.mem_iff.2 (fdG_keys.1 hf)) hm
/-- the document's flock: its members rising -/
structure RefF (w : World) (B mr : Nat) (F : Nat → Prop) (N : NM) (L : Pl) (l : List ByteArray) : Prop where
  x : ∃ p Fd X av, RefFx w B mr F N L l p Fd X av
  rise : l.Pairwise ltS
  perm : l.Perm (L.map (·.1))
  few : l.length ≤ 1048576
  size : ∀ x ∈ l, x.size ≤ 1048576
  lo : N.old.length ≤ max 4 (2 * 1048576)
  ly : N.young.length ≤ max 4 (2 * 1048576)
theorem RefF.len {w : World} {B mr : Nat} {F : Nat → Prop} {N : NM} {L : Pl} {l : List ByteArray} (h : RefF w B mr F N L l) : L.length = l.length := by have := h.perm.length_eq; rw [List.length_map] at this; exact this.symm
def RfGot (w : World) (B mr : Nat) (F : Nat → Prop) (N' : NM) (L' : Pl) (l' : List ByteArray) (w' : World) : Prop := RefF w' B mr (Grew F w w') N' L' l' ∧ Fr F w w'
theorem rfHas_any (h : RefF w B mr F N L l) (hB : B ≤ w.heap.size) :
    Calls Try.prog 109 #[.pointer (some ⟨mr, 0, none⟩), .string key] w fun e w' => e = .returned (.bool (fdG key L).isSome) ∧ RfGot w B mr F (stepN N) L l w' := by
  have hL := h.len
  obtain ⟨⟨p, Fd, X, av, hx⟩, h2, h3, h4, h5, h6, h7⟩ := h
  have HS := Lib.hid h2
  have HP := Lib.hid h3
  have HG := Lib.hid (rdGet_any w B p Fd N L X key hx.d hB (by omega) (by omega) (by omega))
  have c2 := hx.cells.2.2
  have HX := Lib.hid hx
  have HZ := Lib.hid h5
  clear hx h2 h3 h5 hL
  go_enter Try.func109, Try.ntmps109
  go_wp2_with fail
  refine HG.out.mono ?_
  rintro e w1 ⟨rfl, ht⟩
  obtain ⟨X', hx1, hf1⟩ := HX.out.turn hB ht (stepN_seed N)
  have HX1 := Lib.hid hx1
  have HF1 := Lib.hid hf1
  have HPL := Lib.hid (rfPlace_any w1 B mr p _ _ _ L l X' av key hx1)
  clear hx1 hf1 ht HG
  go_wp2_with fail
  refine HPL.out.mono ?_
  rintro e w' ⟨i, hpl, rfl, rfl⟩
  rw [place_bool L l key HS.out HP.out hpl]
  go_wp2_with fail
  go_ret
  exact ⟨rfl, ⟨⟨_, _, _, _, HX1.out⟩, HS.out, HP.out, h4, HZ.out, (stepN_lens h6 h7).1, (stepN_lens h6 h7).2⟩, HF1.out⟩
end
end Go.Proofs.Ytgomilodeaafdaa
namespace Go.Proofs.Ytgomilodeaafdaa
open Go.RowKit
theorem rd_pre {w : World} {a : Option Addr} {n c : Nat} {l : List ByteArray} (h : RdC w 1 (.slice a n c) n (l.map .string)) (i : Nat) (hi : i ≤ n) : RdC w 1 (.slice a i c) i ((l.take i).map .string) := by
  have := rd_take h i hi
  rw [Nat.mul_one, ← List.map_take] at this
  exact this
theorem rd_suf {w : World} {g off n c : Nat} {l : List ByteArray} (h : RdC w 1 (.slice (some ⟨g, off, none⟩) n c) n (l.map .string)) (i : Nat) (hi : i ≤ n) : RdC w 1 (.slice (some ⟨g, off + i, none⟩) (n - i) (c - i)) (n - i) ((l.drop i).map .string) := by
  obtain ⟨h1, a', c', e, h2, h3, h4, h5⟩ := h
  cases e
  rw [List.length_map, Nat.mul_one] at h1
  refine ⟨by rw [List.length_map, List.length_drop]; omega, _, _, rfl, by omega, by omega, (fun e => by cases e), fun ad had j u hu => ?_⟩
  cases had
  rw [List.getElem?_map, List.getElem?_drop, ← List.getElem?_map] at hu
  have := h5 _ rfl (i + j) u hu
  rw [Addr.add_lit] at this ⊢
  rw [Nat.add_assoc]
  exact this
theorem rd_none {w : World} {a : Option Addr} {c : Nat} (hc : c ≤ maxLen) (ha : a = none → c = 0) : RdC w 1 (.slice a 0 c) 0 [] :=
  ⟨by simp, a, c, rfl, Nat.zero_le _, hc, fun e => ⟨rfl, ha e⟩, fun ad _ j u hu => by simp at hu⟩
theorem rd_done {w : World} {g : Nat} {l : List ByteArray} (cap : Nat) (h : l.length ≤ cap) : RdC w 1 (.slice (some ⟨g, 0, none⟩) (l.length - cap) 0) (l.length - cap) ((l.drop cap).map .string) := by
  have e : l.length - cap = 0 := by omega
  have e2 : l.drop cap = [] := List.drop_eq_nil_of_le h
  rw [e, e2]
  exact rd_none (Nat.zero_le _) (fun h => by cases h)
section
variable (w : World) (B mr : Nat) (F : Nat → Prop) (N : NM) (L : Pl) (l : List ByteArray) (key : ByteArray)
theorem rfAdd_nil : Calls Try.prog 42 #[.pointer none, .string key] w fun e w' => e = .returned (.tuple #[.bool false, .int .i64 1]) ∧ w = w' := by
  go_enter Try.func42, Try.ntmps42
  go_wp2
  go_ret2
  exact ⟨rfl, rfl⟩
theorem rfAdd_long (hk : key.size ≤ maxLen) (h : 1048576 < key.size) : Calls Try.prog 42 #[.pointer (some ⟨mr, 0, none⟩), .string key] w fun e w' => e = .returned (.tuple #[.bool false, .int .i64 2]) ∧ w = w' := by
  have g1 : decide (1048576 < (key.size : Int)) = true := by rw [decide_eq_true_eq]; omega
  go_enter Try.func42, Try.ntmps42
  go_wp2
  go_ret2
  exact ⟨rfl, rfl⟩
theorem rfAdd_there (h : RefF w B mr F N L l) (hB : B ≤ w.heap.size) (hk : key.size ≤ 1048576) (ha : (fdG key L).isSome = true) :
    Calls Try.prog 42 #[.pointer (some ⟨mr, 0, none⟩), .string key] w fun e w' => e = .returned (.tuple #[.bool false, .int .i64 0]) ∧ RfGot w B mr F (stepN N) L l w' := by
  have hL := h.len
  obtain ⟨⟨p, Fd, X, av, hx⟩, h2, h3, h4, h5, h6, h7⟩ := h
  have HS := Lib.hid h2
  have HP := Lib.hid h3
  have HG := Lib.hid (rdGet_any w B p Fd N L X key hx.d hB (by omega) (by omega) (by omega))
  have c2 := hx.cells.2.2
  have HX := Lib.hid hx
  have HZ := Lib.hid h5
  have HLE := Lib.hid hL
  have HLO : Hid (N.old.length ≤ max 4 (2 * 1048576) ∧ N.young.length ≤ max 4 (2 * 1048576)) := ⟨h6, h7⟩
  clear hx h2 h3 h5 hL h6 h7
  have g1 : decide (1048576 < (key.size : Int)) = false := by rw [decide_eq_false_iff_not]; omega
  have HA := Lib.hid ha
  clear ha
  go_enter Try.func42, Try.ntmps42
  go_wp2_with fail
  refine HG.out.mono ?_
  rintro e w1 ⟨rfl, ht⟩
  obtain ⟨X', hx1, hf1⟩ := HX.out.turn hB ht (stepN_seed N)
  have HX1 := Lib.hid hx1
  have HF1 := Lib.hid hf1
  have HPL := Lib.hid (rfPlace_any w1 B mr p _ _ _ L l X' _ key hx1)
  have d1 := hx1.cells.2.1
  have d2 := hx1.cells.2.2
  clear hx1 hf1 ht HG
  go_wp2_with fail
  refine HPL.out.mono ?_
  rintro e w' ⟨i, hpl, rfl, rfl⟩
  rw [place_bool L l key HS.out HP.out hpl, HA.out]
  go_wp2_with fail
  go_ret2
  exact ⟨rfl, ⟨⟨_, _, _, _, HX1.out⟩, HS.out, HP.out, h4, HZ.out, (stepN_lens HLO.out.1 HLO.out.2).1, (stepN_lens HLO.out.1 HLO.out.2).2⟩, HF1.out⟩
theorem rfAdd_full (h : RefF w B mr F N L l) (hB : B ≤ w.heap.size) (hk : key.size ≤ 1048576) (ha : (fdG key L).isSome = false) (hl : 1048576 ≤ l.length) :
    Calls Try.prog 42 #[.pointer (some ⟨mr, 0, none⟩), .string key] w fun e w' => e = .returned (.tuple #[.bool false, .int .i64 4]) ∧ RfGot w B mr F (stepN N) L l w' := by
  have hL := h.len
  obtain ⟨⟨p, Fd, X, av, hx⟩, h2, h3, h4, h5, h6, h7⟩ := h
  have HS := Lib.hid h2
  have HP := Lib.hid h3
  have HG := Lib.hid (rdGet_any w B p Fd N L X key hx.d hB (by omega) (by omega) (by omega))
  have c2 := hx.cells.2.2
  have HX := Lib.hid hx
  have HZ := Lib.hid h5
  have HLE := Lib.hid hL
  have HLO : Hid (N.old.length ≤ max 4 (2 * 1048576) ∧ N.young.length ≤ max 4 (2 * 1048576)) := ⟨h6, h7⟩
  clear hx h2 h3 h5 hL h6 h7
  have g1 : decide (1048576 < (key.size : Int)) = false := by rw [decide_eq_false_iff_not]; omega
  have g2 : decide (1048576 ≤ (l.length : Int)) = true := by rw [decide_eq_true_eq]; omega
  have HA := Lib.hid ha
  obtain ⟨aa, ac, rfl⟩ := ow_sliceN HX.out.row
  clear ha
  go_enter Try.func42, Try.ntmps42
  go_wp2_with fail
  refine HG.out.mono ?_
  rintro e w1 ⟨rfl, ht⟩
  obtain ⟨X', hx1, hf1⟩ := HX.out.turn hB ht (stepN_seed N)
  have HX1 := Lib.hid hx1
  have HF1 := Lib.hid hf1
  have HPL := Lib.hid (rfPlace_any w1 B mr p _ _ _ L l X' _ key hx1)
  have d1 := hx1.cells.2.1
  have d2 := hx1.cells.2.2
  clear hx1 hf1 ht HG
  go_wp2_with fail
  refine HPL.out.mono ?_
  rintro e w' ⟨i, hpl, rfl, rfl⟩
  rw [place_bool L l key HS.out HP.out hpl, HA.out]
  go_wp2_with fail
  go_ret2
  exact ⟨rfl, ⟨⟨_, _, _, _, HX1.out⟩, HS.out, HP.out, h4, HZ.out, (stepN_lens HLO.out.1 HLO.out.2).1, (stepN_lens HLO.out.1 HLO.out.2).2⟩, HF1.out⟩
set_option maxRecDepth 100000 in
set_option maxHeartbeats 1000000 in
theorem rfAdd_new (p : Nat) (Fd : Nat → Prop) (X : RB) (g cap : Nat) (hx : RefFx w B mr F N L l p Fd X (.slice (some ⟨g, 0, none⟩) l.length cap)) (h2 : l.Pairwise ltS) (h3 : l.Perm (L.map (·.1))) (h4 : l.length < 1048576) (h5 : ∀ x ∈ l, x.size ≤ 1048576) (h6 : N.old.length ≤ max 4 (2 * 1048576)) (h7 : N.young.length ≤ max 4 (2 * 1048576)) (hB : B ≤ w.heap.size) (hk : key.size ≤ 1048576) (ha : fdG key L = none) :
    Calls Try.prog 42 #[.pointer (some ⟨mr, 0, none⟩), .string key] w fun e w' => e = .returned (.tuple #[.bool true, .int .i64 0]) ∧ ∃ l', RfGot w B mr F (setN (stepN N) key false L.length) (L ++ [(key, 0)]) l' w' := by
  have hL : L.length = l.length := by have := h3.length_eq; rw [List.length_map] at this; exact this.symm
  have HS := Lib.hid h2
  have HP := Lib.hid h3
  have HG := Lib.hid (rdGet_any w B p Fd N L X key hx.d hB (by omega) (by omega) (by omega))
  have c2 := hx.cells.2.2
  have HX := Lib.hid hx
  have HZ := Lib.hid h5
  have HLE := Lib.hid hL
  have HLO : Hid (N.old.length ≤ max 4 (2 * 1048576) ∧ N.young.length ≤ max 4 (2 * 1048576)) := ⟨h6, h7⟩
  have g1 : decide (1048576 < (key.size : Int)) = false := by rw [decide_eq_false_iff_not]; omega
  have g2 : decide (1048576 ≤ (l.length : Int)) = false := by rw [decide_eq_false_iff_not]; omega
  have HA : Hid ((fdG key L).isSome = false) := by show _ = _; rw [ha]; rfl
  have HAN := Lib.hid ha
  clear hx h2 h3 h5 hL h6 h7 ha
  go_enter Try.func42, Try.ntmps42
  go_wp2_with fail
  refine HG.out.mono ?_
  rintro e w1 ⟨rfl, ht⟩
  obtain ⟨X', hx1, hf1⟩ := HX.out.turn hB ht (stepN_seed N)
  have HX1 := Lib.hid hx1
  have HF1 := Lib.hid hf1
  have HPL := Lib.hid (rfPlace_any w1 B mr p _ _ _ L l X' _ key hx1)
  have d1 := hx1.cells.2.1
  have d2 := hx1.cells.2.2
  have HB1 : Hid (B ≤ w1.heap.size) := Nat.le_trans hB hf1.size
  have HST := Lib.hid (rdSet_any w1 B p _ (stepN N) L X' key 0 hx1.d HB1.out (by have := (stepN_lens HLO.out.1 HLO.out.2).1; omega) (by have := (stepN_lens HLO.out.1 HLO.out.2).2; omega) (by have := HLE.out; omega) (by unfold maxLen; omega))
  rw [HA.out, setG_none HAN.out] at HST
  clear hx1 hf1 ht HG
  go_wp2_with fail
  refine HPL.out.mono ?_
  rintro e w' ⟨i, hpl, rfl, rfl⟩
  rw [place_bool L l key HS.out HP.out hpl, HA.out]
  have HPP := Lib.hid hpl
  have hile := hpl.le
  clear hpl HPL
  go_wp2_with fail
  refine HST.out.mono ?_
  rintro e w2 ⟨rfl, ht⟩
  obtain ⟨X2, hx2, hf2⟩ := HX1.out.turn HB1.out ht (by rw [setN_seed])
  have HX2 := Lib.hid hx2
  have HF2 := Lib.hid hf2
  have k1 := hx2.cells.2.1
  have hmr := (hx2.lt mr hx2.fm).2
  clear hx2 hf2 ht HST d1 d2
  obtain ⟨i0, hi, hz0, hz1, hz2⟩ := info_parts info_str
  have HI := Lib.hid hi
  have HZ0 := Lib.hid hz0
  have HZ1 := Lib.hid hz1
  have HZ2 := Lib.hid hz2
  have HR2 := Lib.hid (RdC.of_owns HX2.out.row)
  clear hi hz0 hz1 hz2
  by_cases hci : cap = i
  · subst hci
    have hcl : l.length ≤ cap := by have := HR2.out; obtain ⟨-, a', c', e, h2, -⟩ := this; cases e; exact h2
    have hclh := Lib.hid hcl
    clear hcl
    go_wp2_with (first | (at_builtin; refine wpl_append2 rfl (.tmp 39) (.tmp 45) 39 rfl w2.heap.size 9 i0 (.string ⟨#[]⟩) 1 16 Try.underlying39 HI.out HZ0.out HZ1.out HZ2.out rfl (by decide) (.slice none 0 0) 0 [] rfl (World.ownsRow_nil _ _ _ _) (.slice (some ⟨g, 0, none⟩) cap cap) cap _ rfl (rd_pre HR2.out cap hile) (strs1 _) (by unfold maxLen; omega) (by omega) (Nat.le_refl _) ?_; intro vo w3 hown hgrow hap; rw [Nat.zero_add, List.nil_append] at hown; obtain ⟨oa, oc, rfl⟩ := ow_sliceN hown; have HO3 := Lib.hid hown; have HB3 : Hid (Below w2.heap.size w2 w3) := (Fr.of_grownBy hgrow).below (Nat.le_refl _) (fun i hi => (by cases hi)); have hs3 : Hid (w2.heap.size ≤ w3.heap.size) := HB3.out.size; clear hown hgrow hap) | (at_builtin; refine wpl_append2 rfl (.tmp 47) (.tmp 49) 39 rfl w2.heap.size 9 i0 (.string ⟨#[]⟩) 1 16 Try.underlying39 HI.out HZ0.out HZ1.out HZ2.out rfl (by decide) (.slice oa cap oc) cap _ rfl (HO3.out.alloc _) _ 1 [.string key] rfl (RdC.of_owns (World.ownsRow_lit (base := w3.heap.size) (e := 9) (size := 1) w3 #[.string key] 1 (Nat.le_refl _) (by decide) rfl)) (by simp [Value.oneCell']) (by unfold maxLen; omega) (by omega) (by rw [World.size_alloc]; have := hs3.out; omega) ?_; intro vo4 w4 hown hgrow hap; obtain ⟨oa4, oc4, rfl⟩ := ow_sliceN hown; have HO4 := Lib.hid hown; have HB4 : Hid (Below w2.heap.size w2 w4) := (HB3.out.alloc HB3.out.size _).trans ((Fr.of_grownBy hgrow).below (by rw [World.size_alloc]; have := hs3.out; omega) (fun i hi => (own_blk HO3.out hi).1)); have hs4 : Hid (w2.heap.size ≤ w4.heap.size) := HB4.out.size; have hq4 := fr_bel0 HB4.out; have k4 := hq4.cell k1 (fun h => h); have HR4 := Lib.hid (HR2.out.fr hq4 (fun _ _ h => h)); clear hown hgrow hap hq4) | (at_builtin; refine wpl_append2 rfl (.tmp 52) (.tmp 58) 39 rfl w2.heap.size 9 i0 (.string ⟨#[]⟩) 1 16 Try.underlying39 HI.out HZ0.out HZ1.out HZ2.out rfl (by decide) (.slice oa4 (cap + 1) oc4) (cap + 1) _ rfl HO4.out (.slice (some ⟨g, 0, none⟩) (l.length - cap) 0) (l.length - cap) _ rfl (rd_done cap hclh.out) (strs1 _) (by unfold maxLen; omega) (by omega) hs4.out ?_; intro vo5 w5 hown hgrow hap; obtain ⟨oa5, oc5, rfl⟩ := ow_sliceN hown; have HO5 := Lib.hid hown; have HB5 : Hid (Below w2.heap.size w2 w5) := HB4.out.trans ((Fr.of_grownBy hgrow).below hs4.out (fun i hi => (own_blk HO4.out hi).1)); have hq5 := fr_bel0 HB5.out; have k5 := hq5.cell k1 (fun h => h); have l5 := free_of_blk ((hq5.block mr hmr (fun h => h)).trans HX2.out.blk) 1; clear hown hgrow hap hq5))
    go_ret2
    have hpi := place_ins HS.out HPP.out (fun hm => by have := fdG_keys.2 (HP.out.mem_iff.1 hm); rw [HA.out] at this; cases this)
    have hlen : (l.take cap ++ key :: l.drop cap).length = cap + 1 + (l.length - cap) := by simp; omega
    have hx5 := (HX2.out.quiet (fr_bel0 HB5.out)).all (l' := l.take cap ++ key :: l.drop cap) (b := w2.heap.size) (Nat.le_trans HB1.out HF2.out.size) (fun k hk => (HX2.out.lt k hk).2) (by rw [hlen]; have h9 := HO5.out; rw [List.map_append, List.map_cons]; simpa using h9)
    have hs5 := HB5.out.size
    have hs1 := HF1.out.size
    have hs2 := HF2.out.size
    have hg := grow_lens2 N key L.length 1048576 false HLO.out.1 HLO.out.2 (by have := HLE.out; omega)
    have hN : setN (stepN N) key false L.length = setN (stepN N) key false L.length := rfl
    have hg2 := grow_lens2 (stepN N) key L.length 1048576 false (stepN_lens HLO.out.1 HLO.out.2).1 (stepN_lens HLO.out.1 HLO.out.2).2 (by have := HLE.out; omega)
    refine ⟨rfl, l.take cap ++ key :: l.drop cap, ⟨⟨_, _, _, _, hx5.wide (F' := Grew F w _) (fun k hk => grew_set.2 ?_) (fun k hk => ?_)⟩, hpi.1, ?_, by rw [hlen]; omega, fun x hx => ?_, hg2.1, hg2.2⟩, ?_⟩
    · rcases hk with ((hk | hk) | hk) | hk
      · exact .inl hk
      · exact .inr ⟨hk.1, by omega⟩
      · exact .inr ⟨by omega, by omega⟩
      · exact .inr ⟨by omega, hk.2⟩
    · rcases grew_set.1 hk with hk | hk
      · exact hx5.lt k (.inl (.inl (.inl hk)))
      · exact ⟨by omega, by rw [World.size_setCell]; exact hk.2⟩
    · rw [List.map_append]
      exact hpi.2.trans (HP.out.append_right _)
    · rcases List.mem_append.1 (hpi.2.mem_iff.1 hx) with hx | hx
      · exact HZ.out x hx
      · rw [List.mem_singleton.1 hx]; exact hk
    · refine (((HF1.out.wide HF2.out (fun k hk => hk.imp id (fun q => q.1))).wide (fr_bel0 HB5.out) (fun _ h => h.elim))).thenSet _ _ (fun _ => HX.out.fm)
  · have hcap : i < cap := by have := HR2.out; obtain ⟨-, a', c', e, h2, -⟩ := this; cases e; omega
    have i1 : (i : Int) ≤ (l.length : Int) := by omega
    have i2 : (i : Int) ≤ (cap : Int) := by omega
    have i00 : (0 : Int) ≤ (i : Int) := by omega
    go_wp2_with (first | (at_builtin; refine wpl_append2 rfl (.tmp 39) (.tmp 45) 39 rfl w2.heap.size 9 i0 (.string ⟨#[]⟩) 1 16 Try.underlying39 HI.out HZ0.out HZ1.out HZ2.out rfl (by decide) (.slice none 0 0) 0 [] rfl (World.ownsRow_nil _ _ _ _) (.slice (some ⟨g, 0, none⟩) i cap) i _ rfl (rd_pre HR2.out i hile) (strs1 _) (by unfold maxLen; omega) (by omega) (Nat.le_refl _) ?_; intro vo w3 hown hgrow hap; rw [Nat.zero_add, List.nil_append] at hown; obtain ⟨oa, oc, rfl⟩ := ow_sliceN hown; have HO3 := Lib.hid hown; have HB3 : Hid (Below w2.heap.size w2 w3) := (Fr.of_grownBy hgrow).below (Nat.le_refl _) (fun i hi => (by cases hi)); have hs3 : Hid (w2.heap.size ≤ w3.heap.size) := HB3.out.size; clear hown hgrow hap) | (at_builtin; refine wpl_append2 rfl (.tmp 47) (.tmp 49) 39 rfl w2.heap.size 9 i0 (.string ⟨#[]⟩) 1 16 Try.underlying39 HI.out HZ0.out HZ1.out HZ2.out rfl (by decide) (.slice oa i oc) i _ rfl (HO3.out.alloc _) _ 1 [.string key] rfl (RdC.of_owns (World.ownsRow_lit (base := w3.heap.size) (e := 9) (size := 1) w3 #[.string key] 1 (Nat.le_refl _) (by decide) rfl)) (by simp [Value.oneCell']) (by unfold maxLen; omega) (by omega) (by rw [World.size_alloc]; have := hs3.out; omega) ?_; intro vo4 w4 hown hgrow hap; obtain ⟨oa4, oc4, rfl⟩ := ow_sliceN hown; have HO4 := Lib.hid hown; have HB4 : Hid (Below w2.heap.size w2 w4) := (HB3.out.alloc HB3.out.size _).trans ((Fr.of_grownBy hgrow).below (by rw [World.size_alloc]; have := hs3.out; omega) (fun i hi => (own_blk HO3.out hi).1)); have hs4 : Hid (w2.heap.size ≤ w4.heap.size) := HB4.out.size; have hq4 := fr_bel0 HB4.out; have k4 := hq4.cell k1 (fun h => h); have HR4 := Lib.hid (HR2.out.fr hq4 (fun _ _ h => h)); clear hown hgrow hap hq4) | (at_builtin; refine wpl_append2 rfl (.tmp 52) (.tmp 58) 39 rfl w2.heap.size 9 i0 (.string ⟨#[]⟩) 1 16 Try.underlying39 HI.out HZ0.out HZ1.out HZ2.out rfl (by decide) (.slice oa4 (i + 1) oc4) (i + 1) _ rfl HO4.out (.slice (some ⟨g, i, none⟩) (l.length - i) (cap - i)) (l.length - i) _ rfl (by have := rd_suf HR4.out i hile; rw [Nat.zero_add] at this; exact this) (strs1 _) (by unfold maxLen; omega) (by omega) hs4.out ?_; intro vo5 w5 hown hgrow hap; obtain ⟨oa5, oc5, rfl⟩ := ow_sliceN hown; have HO5 := Lib.hid hown; have HB5 : Hid (Below w2.heap.size w2 w5) := HB4.out.trans ((Fr.of_grownBy hgrow).below hs4.out (fun i hi => (own_blk HO4.out hi).1)); have hq5 := fr_bel0 HB5.out; have k5 := hq5.cell k1 (fun h => h); have l5 := free_of_blk ((hq5.block mr hmr (fun h => h)).trans HX2.out.blk) 1; clear hown hgrow hap hq5))
    go_ret2
    have hpi := place_ins HS.out HPP.out (fun hm => by have := fdG_keys.2 (HP.out.mem_iff.1 hm); rw [HA.out] at this; cases this)
    have hlen : (l.take i ++ key :: l.drop i).length = i + 1 + (l.length - i) := by simp; omega
    have hx5 := (HX2.out.quiet (fr_bel0 HB5.out)).all (l' := l.take i ++ key :: l.drop i) (b := w2.heap.size) (Nat.le_trans HB1.out HF2.out.size) (fun k hk => (HX2.out.lt k hk).2) (by rw [hlen]; have h9 := HO5.out; rw [List.map_append, List.map_cons]; simpa using h9)
    have hs5 := HB5.out.size
    have hs1 := HF1.out.size
    have hs2 := HF2.out.size
    have hg := grow_lens2 N key L.length 1048576 false HLO.out.1 HLO.out.2 (by have := HLE.out; omega)
    have hN : setN (stepN N) key false L.length = setN (stepN N) key false L.length := rfl
    have hg2 := grow_lens2 (stepN N) key L.length 1048576 false (stepN_lens HLO.out.1 HLO.out.2).1 (stepN_lens HLO.out.1 HLO.out.2).2 (by have := HLE.out; omega)
    refine ⟨rfl, l.take i ++ key :: l.drop i, ⟨⟨_, _, _, _, hx5.wide (F' := Grew F w _) (fun k hk => grew_set.2 ?_) (fun k hk => ?_)⟩, hpi.1, ?_, by rw [hlen]; omega, fun x hx => ?_, hg2.1, hg2.2⟩, ?_⟩
    · rcases hk with ((hk | hk) | hk) | hk
      · exact .inl hk
      · exact .inr ⟨hk.1, by omega⟩
      · exact .inr ⟨by omega, by omega⟩
      · exact .inr ⟨by omega, hk.2⟩
    · rcases grew_set.1 hk with hk | hk
      · exact hx5.lt k (.inl (.inl (.inl hk)))
      · exact ⟨by omega, by rw [World.size_setCell]; exact hk.2⟩
    · rw [List.map_append]
      exact hpi.2.trans (HP.out.append_right _)
    · rcases List.mem_append.1 (hpi.2.mem_iff.1 hx) with hx | hx
      · exact HZ.out x hx
      · rw [List.mem_singleton.1 hx]; exact hk
    · refine (((HF1.out.wide HF2.out (fun k hk => hk.imp id (fun q => q.1))).wide (fr_bel0 HB5.out) (fun _ h => h.elim))).thenSet _ _ (fun _ => HX.out.fm)
set_option maxRecDepth 100000 in
set_option maxHeartbeats 1000000 in
theorem rfAdd_new0 (hnil : l = []) (p : Nat) (Fd : Nat → Prop) (X : RB) (hx : RefFx w B mr F N L l p Fd X (.slice none 0 0)) (h2 : l.Pairwise ltS) (h3 : l.Perm (L.map (·.1))) (h4 : l.length < 1048576) (h5 : ∀ x ∈ l, x.size ≤ 1048576) (h6 : N.old.length ≤ max 4 (2 * 1048576)) (h7 : N.young.length ≤ max 4 (2 * 1048576)) (hB : B ≤ w.heap.size) (hk : key.size ≤ 1048576) (ha : fdG key L = none) :
    Calls Try.prog 42 #[.pointer (some ⟨mr, 0, none⟩), .string key] w fun e w' => e = .returned (.tuple #[.bool true, .int .i64 0]) ∧ ∃ l', RfGot w B mr F (setN (stepN N) key false L.length) (L ++ [(key, 0)]) l' w' := by
  subst hnil
  have hL : L.length = ([] : List ByteArray).length := by have := h3.length_eq; rw [List.length_map] at this; exact this.symm
  have HS := Lib.hid h2
  have HP := Lib.hid h3
  have HG := Lib.hid (rdGet_any w B p Fd N L X key hx.d hB (by omega) (by omega) (by omega))
  have c2 := hx.cells.2.2
  have HX := Lib.hid hx
  have HZ := Lib.hid h5
  have HLE := Lib.hid hL
  have HLO : Hid (N.old.length ≤ max 4 (2 * 1048576) ∧ N.young.length ≤ max 4 (2 * 1048576)) := ⟨h6, h7⟩
  have g1 : decide (1048576 < (key.size : Int)) = false := by rw [decide_eq_false_iff_not]; omega
  have g2 : decide (1048576 ≤ (([] : List ByteArray).length : Int)) = false := by rw [decide_eq_false_iff_not]; omega
  have HA : Hid ((fdG key L).isSome = false) := by show _ = _; rw [ha]; rfl
  have HAN := Lib.hid ha
  clear hx h2 h3 h5 hL h6 h7 ha
  go_enter Try.func42, Try.ntmps42
  go_wp2_with fail
  refine HG.out.mono ?_
  rintro e w1 ⟨rfl, ht⟩
  obtain ⟨X', hx1, hf1⟩ := HX.out.turn hB ht (stepN_seed N)
  have HX1 := Lib.hid hx1
  have HF1 := Lib.hid hf1
  have HPL := Lib.hid (rfPlace_any w1 B mr p _ _ _ L [] X' _ key hx1)
  have d1 := hx1.cells.2.1
  have d2 := hx1.cells.2.2
  have HB1 : Hid (B ≤ w1.heap.size) := Nat.le_trans hB hf1.size
  have HST := Lib.hid (rdSet_any w1 B p _ (stepN N) L X' key 0 hx1.d HB1.out (by have := (stepN_lens HLO.out.1 HLO.out.2).1; omega) (by have := (stepN_lens HLO.out.1 HLO.out.2).2; omega) (by have := HLE.out; omega) (by unfold maxLen; omega))
  rw [HA.out, setG_none HAN.out] at HST
  clear hx1 hf1 ht HG
  go_wp2_with fail
  refine HPL.out.mono ?_
  rintro e w' ⟨i, hpl, rfl, rfl⟩
  rw [place_bool L [] key HS.out HP.out hpl, HA.out]
  have HPP := Lib.hid hpl
  have hile := hpl.le
  clear hpl HPL
  go_wp2_with fail
  refine HST.out.mono ?_
  rintro e w2 ⟨rfl, ht⟩
  obtain ⟨X2, hx2, hf2⟩ := HX1.out.turn HB1.out ht (by rw [setN_seed])
  have HX2 := Lib.hid hx2
  have HF2 := Lib.hid hf2
  have k1 := hx2.cells.2.1
  have hmr := (hx2.lt mr hx2.fm).2
  clear hx2 hf2 ht HST d1 d2
  obtain ⟨i0, hi, hz0, hz1, hz2⟩ := info_parts info_str
  have HI := Lib.hid hi
  have HZ0 := Lib.hid hz0
  have HZ1 := Lib.hid hz1
  have HZ2 := Lib.hid hz2
  clear hi hz0 hz1 hz2
  obtain rfl : i = 0 := by simpa using hile
  go_wp2_with (first | (at_builtin; refine wpl_append2 rfl (.tmp 39) (.tmp 45) 39 rfl w2.heap.size 9 i0 (.string ⟨#[]⟩) 1 16 Try.underlying39 HI.out HZ0.out HZ1.out HZ2.out rfl (by decide) (.slice none 0 0) 0 [] rfl (World.ownsRow_nil _ _ _ _) (.slice none 0 0) 0 [] rfl (RdC.nil _ _) (fun u hu => by cases hu) (by unfold maxLen; omega) (by omega) (Nat.le_refl _) ?_; intro vo w3 hown hgrow hap; obtain ⟨oa, oc, rfl⟩ := ow_sliceN hown; have HO3 := Lib.hid hown; have HB3 : Hid (Below w2.heap.size w2 w3) := (Fr.of_grownBy hgrow).below (Nat.le_refl _) (fun i hi => (by cases hi)); have hs3 : Hid (w2.heap.size ≤ w3.heap.size) := HB3.out.size; clear hown hgrow hap) | (at_builtin; refine wpl_append2 rfl (.tmp 47) (.tmp 49) 39 rfl w2.heap.size 9 i0 (.string ⟨#[]⟩) 1 16 Try.underlying39 HI.out HZ0.out HZ1.out HZ2.out rfl (by decide) (.slice oa 0 oc) 0 [] rfl (HO3.out.alloc _) _ 1 [.string key] rfl (RdC.of_owns (World.ownsRow_lit (base := w3.heap.size) (e := 9) (size := 1) w3 #[.string key] 1 (Nat.le_refl _) (by decide) rfl)) (by simp [Value.oneCell']) (by unfold maxLen; omega) (by omega) (by rw [World.size_alloc]; have := hs3.out; omega) ?_; intro vo4 w4 hown hgrow hap; obtain ⟨oa4, oc4, rfl⟩ := ow_sliceN hown; have HO4 := Lib.hid hown; have HB4 : Hid (Below w2.heap.size w2 w4) := (HB3.out.alloc HB3.out.size _).trans ((Fr.of_grownBy hgrow).below (by rw [World.size_alloc]; have := hs3.out; omega) (fun i hi => (own_blk HO3.out hi).1)); have hs4 : Hid (w2.heap.size ≤ w4.heap.size) := HB4.out.size; have hq4 := fr_bel0 HB4.out; have k4 := hq4.cell k1 (fun h => h); clear hown hgrow hap hq4) | (at_builtin; refine wpl_append2 rfl (.tmp 52) (.tmp 58) 39 rfl w2.heap.size 9 i0 (.string ⟨#[]⟩) 1 16 Try.underlying39 HI.out HZ0.out HZ1.out HZ2.out rfl (by decide) (.slice oa4 1 oc4) 1 _ rfl HO4.out (.slice none 0 0) 0 [] rfl (RdC.nil _ _) (fun u hu => by cases hu) (by unfold maxLen; omega) (by omega) hs4.out ?_; intro vo5 w5 hown hgrow hap; obtain ⟨oa5, oc5, rfl⟩ := ow_sliceN hown; have HO5 := Lib.hid hown; have HB5 : Hid (Below w2.heap.size w2 w5) := HB4.out.trans ((Fr.of_grownBy hgrow).below hs4.out (fun i hi => (own_blk HO4.out hi).1)); have hq5 := fr_bel0 HB5.out; have k5 := hq5.cell k1 (fun h => h); have l5 := free_of_blk ((hq5.block mr hmr (fun h => h)).trans HX2.out.blk) 1; clear hown hgrow hap hq5))
  go_ret2
  have hpi : [key].Pairwise ltS ∧ [key].Perm ([] ++ [key]) := ⟨List.pairwise_singleton _ _, List.Perm.refl _⟩
  have hlen : [key].length = 1 := rfl
  have hx5 := (HX2.out.quiet (fr_bel0 HB5.out)).all (l' := [key]) (b := w2.heap.size) (Nat.le_trans HB1.out HF2.out.size) (fun k hk => (HX2.out.lt k hk).2) (by rw [hlen]; have h9 := HO5.out; simpa using h9)
  have hs5 := HB5.out.size
  have hs1 := HF1.out.size
  have hs2 := HF2.out.size
  have hg := grow_lens2 N key L.length 1048576 false HLO.out.1 HLO.out.2 (by have := HLE.out; omega)
  have hN : setN (stepN N) key false L.length = setN (stepN N) key false L.length := rfl
  have hg2 := grow_lens2 (stepN N) key L.length 1048576 false (stepN_lens HLO.out.1 HLO.out.2).1 (stepN_lens HLO.out.1 HLO.out.2).2 (by have := HLE.out; omega)
  refine ⟨rfl, [key], ⟨⟨_, _, _, _, hx5.wide (F' := Grew F w _) (fun k hk => grew_set.2 ?_) (fun k hk => ?_)⟩, hpi.1, ?_, by rw [hlen]; decide, fun x hx => ?_, hg2.1, hg2.2⟩, ?_⟩
  · rcases hk with ((hk | hk) | hk) | hk
    · exact .inl hk
    · exact .inr ⟨hk.1, by omega⟩
    · exact .inr ⟨by omega, by omega⟩
    · exact .inr ⟨by omega, hk.2⟩
  · rcases grew_set.1 hk with hk | hk
    · exact hx5.lt k (.inl (.inl (.inl hk)))
    · exact ⟨by omega, by rw [World.size_setCell]; exact hk.2⟩
  · rw [List.map_append]
    exact hpi.2.trans (HP.out.append_right _)
  · rcases List.mem_append.1 (hpi.2.mem_iff.1 hx) with hx | hx
    · exact HZ.out x hx
    · rw [List.mem_singleton.1 hx]; exact hk
  · refine (((HF1.out.wide HF2.out (fun k hk => hk.imp id (fun q => q.1))).wide (fr_bel0 HB5.out) (fun _ h => h.elim))).thenSet _ _ (fun _ => HX.out.fm)
theorem rfAdd_any (h : RefF w B mr F N L l) (hB : B ≤ w.heap.size) (hk : key.size ≤ 1048576) :
    Calls Try.prog 42 #[.pointer (some ⟨mr, 0, none⟩), .string key] w fun e w' => ∃ N' L' l', RfGot w B mr F N' L' l' w' ∧
      (((fdG key L).isSome = true ∧ e = .returned (.tuple #[.bool false, .int .i64 0]) ∧ N' = stepN N ∧ L' = L) ∨
       ((fdG key L) = none ∧ 1048576 ≤ L.length ∧ e = .returned (.tuple #[.bool false, .int .i64 4]) ∧ N' = stepN N ∧ L' = L) ∨
       ((fdG key L) = none ∧ L.length < 1048576 ∧ e = .returned (.tuple #[.bool true, .int .i64 0]) ∧ N' = setN (stepN N) key false L.length ∧ L' = L ++ [(key, 0)])) := by
  cases ha : (fdG key L).isSome with
  | true =>
    refine (rfAdd_there w B mr F N L l key h hB hk ha).mono ?_
    rintro e w' ⟨h1, h2⟩
    exact ⟨_, _, _, h2, .inl ⟨rfl, h1, rfl, rfl⟩⟩
  | false =>
    have hn : fdG key L = none := by cases hf : fdG key L with | none => rfl | some i => rw [hf] at ha; cases ha
    by_cases hl : 1048576 ≤ l.length
    · refine (rfAdd_full w B mr F N L l key h hB hk ha hl).mono ?_
      rintro e w' ⟨h1, h2⟩
      exact ⟨_, _, _, h2, .inr (.inl ⟨hn, by rw [h.len]; exact hl, h1, rfl, rfl⟩)⟩
    · obtain ⟨p, Fd, X, av, hx⟩ := h.x
      have hl2 : l.length < 1048576 := by omega
      rcases hx.row.2 with ⟨hv, h0⟩ | ⟨g, cap, cur, hv, -⟩
      · subst hv
        have hl0 : l = [] := by simpa using h0
        refine (rfAdd_new0 w B mr F N L l key hl0 p Fd X hx h.rise h.perm hl2 h.size h.lo h.ly hB hk hn).mono ?_
        rintro e w' ⟨h1, l', h2⟩
        exact ⟨_, _, l', h2, .inr (.inr ⟨hn, by rw [h.len]; exact hl2, h1, rfl, rfl⟩)⟩
      · subst hv
        refine (rfAdd_new w B mr F N L l key p Fd X g cap hx h.rise h.perm hl2 h.size h.lo h.ly hB hk hn).mono ?_
        rintro e w' ⟨h1, l', h2⟩
        exact ⟨_, _, l', h2, .inr (.inr ⟨hn, by rw [h.len]; exact hl2, h1, rfl, rfl⟩)⟩
end
end Go.Proofs.Ytgomilodeaafdaa
namespace Go.Proofs.Ytgomilodeaafdaa
open Go.RowKit
section
variable (w : World) (B mr : Nat) (F : Nat → Prop) (N : NM) (L : Pl) (l : List ByteArray) (key : ByteArray)
theorem rfDel_nil : Calls Try.prog 108 #[.pointer none, .string key] w fun e w' => e = .returned (.bool false) ∧ w = w' := by
  go_enter Try.func108, Try.ntmps108
  go_wp2
  go_ret
  exact ⟨rfl, rfl⟩
theorem rfDel_none (h : RefF w B mr F N L l) (hB : B ≤ w.heap.size) (ha : (fdG key L).isSome = false) :
    Calls Try.prog 108 #[.pointer (some ⟨mr, 0, none⟩), .string key] w fun e w' => e = .returned (.bool false) ∧ RfGot w B mr F (stepN N) L l w' := by
  have hL := h.len
  obtain ⟨⟨p, Fd, X, av, hx⟩, h2, h3, h4, h5, h6, h7⟩ := h
  have HS := Lib.hid h2
  have HP := Lib.hid h3
  have HG := Lib.hid (rdGet_any w B p Fd N L X key hx.d hB (by omega) (by omega) (by omega))
  have c2 := hx.cells.2.2
  have HX := Lib.hid hx
  have HZ := Lib.hid h5
  have HLE := Lib.hid hL
  have HLO : Hid (N.old.length ≤ max 4 (2 * 1048576) ∧ N.young.length ≤ max 4 (2 * 1048576)) := ⟨h6, h7⟩
  clear hx h2 h3 h5 hL h6 h7
  have HA := Lib.hid ha
  clear ha
  go_enter Try.func108, Try.ntmps108
  go_wp2_with fail
  refine HG.out.mono ?_
  rintro e w1 ⟨rfl, ht⟩
  obtain ⟨X', hx1, hf1⟩ := HX.out.turn hB ht (stepN_seed N)
  have HX1 := Lib.hid hx1
  have HF1 := Lib.hid hf1
  have HPL := Lib.hid (rfPlace_any w1 B mr p _ _ _ L l X' _ key hx1)
  have d1 := hx1.cells.2.1
  have d2 := hx1.cells.2.2
  clear hx1 hf1 ht HG
  go_wp2_with fail
  refine HPL.out.mono ?_
  rintro e w' ⟨i, hpl, rfl, rfl⟩
  rw [place_bool L l key HS.out HP.out hpl, HA.out]
  go_wp2_with fail
  go_ret
  exact ⟨rfl, ⟨⟨_, _, _, _, HX1.out⟩, HS.out, HP.out, h4, HZ.out, (stepN_lens HLO.out.1 HLO.out.2).1, (stepN_lens HLO.out.1 HLO.out.2).2⟩, HF1.out⟩
set_option maxRecDepth 100000 in
set_option maxHeartbeats 1000000 in
theorem rfDel_there (j0 : Nat) (h : RefF w B mr F N L l) (hB : B ≤ w.heap.size) (hk : key.size ≤ maxLen) (ha : fdG key L = some j0) :
    Calls Try.prog 108 #[.pointer (some ⟨mr, 0, none⟩), .string key] w fun e w' => e = .returned (.bool true) ∧ ∃ l', RfGot w B mr F (delN (stepN N) key true L.length) (delG L key) l' w' := by
  have hL := h.len
  obtain ⟨⟨p, Fd, X, av, hx⟩, h2, h3, h4, h5, h6, h7⟩ := h
  have hjl := fdG_lt ha
  obtain ⟨g, cap, rfl, -, -⟩ := hx.row.form (by omega)
  have HS := Lib.hid h2
  have HP := Lib.hid h3
  have HG := Lib.hid (rdGet_any w B p Fd N L X key hx.d hB (by omega) (by omega) (by omega))
  have c2 := hx.cells.2.2
  have HX := Lib.hid hx
  have HZ := Lib.hid h5
  have HLE := Lib.hid hL
  have HLO : Hid (N.old.length ≤ max 4 (2 * 1048576) ∧ N.young.length ≤ max 4 (2 * 1048576)) := ⟨h6, h7⟩
  have HA : Hid ((fdG key L).isSome = true) := by show _ = _; rw [ha]; rfl
  have HAN := Lib.hid ha
  clear hx h2 h3 h5 hL h6 h7 ha hjl
  go_enter Try.func108, Try.ntmps108
  go_wp2_with fail
  refine HG.out.mono ?_
  rintro e w1 ⟨rfl, ht⟩
  obtain ⟨X', hx1, hf1⟩ := HX.out.turn hB ht (stepN_seed N)
  have HX1 := Lib.hid hx1
  have HF1 := Lib.hid hf1
  have HPL := Lib.hid (rfPlace_any w1 B mr p _ _ _ L l X' _ key hx1)
  have d1 := hx1.cells.2.1
  have d2 := hx1.cells.2.2
  have HB1 : Hid (B ≤ w1.heap.size) := Nat.le_trans hB hf1.size
  have HST := Lib.hid (rdDel_any w1 B p _ (stepN N) L X' key hx1.d HB1.out (by have := (stepN_lens HLO.out.1 HLO.out.2).1; omega) (by have := (stepN_lens HLO.out.1 HLO.out.2).2; omega) (by have := HLE.out; omega) hk)
  rw [HA.out] at HST
  clear hx1 hf1 ht HG
  go_wp2_with fail
  refine HPL.out.mono ?_
  rintro e w' ⟨i, hpl, rfl, rfl⟩
  have hik : l[i]? = some key := (place_in HS.out hpl).2 (HP.out.mem_iff.2 (fdG_keys.1 HA.out))
  rw [place_bool L l key HS.out HP.out hpl, HA.out]
  have HIK := Lib.hid hik
  have hile := (List.getElem?_eq_some_iff.1 hik).1
  clear hpl HPL hik
  go_wp2_with fail
  refine HST.out.mono ?_
  rintro e w2 ⟨rfl, ht⟩
  obtain ⟨X2, hx2, hf2⟩ := HX1.out.turn HB1.out ht (by rw [delN_seed])
  have HX2 := Lib.hid hx2
  have HF2 := Lib.hid hf2
  have k1 := hx2.cells.2.1
  have hmr := (hx2.lt mr hx2.fm).2
  clear hx2 hf2 ht HST d1 d2
  obtain ⟨i0, hi, hz0, hz1, hz2⟩ := info_parts info_str
  have HI := Lib.hid hi
  have HZ0 := Lib.hid hz0
  have HZ1 := Lib.hid hz1
  have HZ2 := Lib.hid hz2
  have HR2 := Lib.hid (RdC.of_owns HX2.out.row)
  clear hi hz0 hz1 hz2
  have hcl0 : l.length ≤ cap := by have := HR2.out; obtain ⟨-, a', c', e, h2, -⟩ := this; cases e; exact h2
  have hcm : cap ≤ maxLen := by have := HR2.out; obtain ⟨-, a', c', e, -, h3, -⟩ := this; cases e; exact h3
  obtain ⟨j, hj⟩ : ∃ j, i + 1 = j := ⟨_, rfl⟩
  have e1 : IntKind.i64.wrap ((i : Int) + 1) = (j : Int) := by rw [IntWalk.i64_in _ (by omega)]; omega
  have e2 : (i : Int) + 1 = (j : Int) := by omega
  have j1 : (j : Int) ≤ (l.length : Int) := by omega
  have j2 : (j : Int) ≤ (cap : Int) := by omega
  have j3 : (0 : Int) ≤ (j : Int) := by omega
  have i1 : (i : Int) ≤ (l.length : Int) := by omega
  have i2 : (i : Int) ≤ (cap : Int) := by omega
  have i00 : (0 : Int) ≤ (i : Int) := by omega
  have HJ := Lib.hid hj
  have hjl : j ≤ l.length := by omega
  have HC0 := Lib.hid hcl0
  clear hj hcl0
  by_cases hci : cap = j
  · subst hci
    go_wp2_with (first | (at_builtin; refine wpl_append2 rfl (.tmp 30) (.tmp 36) 39 rfl w2.heap.size 9 i0 (.string ⟨#[]⟩) 1 16 Try.underlying39 HI.out HZ0.out HZ1.out HZ2.out rfl (by decide) (.slice none 0 0) 0 [] rfl (World.ownsRow_nil _ _ _ _) (.slice (some ⟨g, 0, none⟩) i cap) i _ rfl (rd_pre HR2.out i (by omega)) (strs1 _) (by unfold maxLen; omega) (by omega) (Nat.le_refl _) ?_; intro vo w3 hown hgrow hap; rw [Nat.zero_add, List.nil_append] at hown; obtain ⟨oa, oc, rfl⟩ := ow_sliceN hown; have HO4 := Lib.hid hown; have HB4 : Hid (Below w2.heap.size w2 w3) := (Fr.of_grownBy hgrow).below (Nat.le_refl _) (fun i hi => (by cases hi)); have hs4 : Hid (w2.heap.size ≤ w3.heap.size) := HB4.out.size; have hq4 := fr_bel0 HB4.out; have k4 := hq4.cell k1 (fun h => h); have HR4 := Lib.hid (HR2.out.fr hq4 (fun _ _ h => h)); clear hown hgrow hap hq4) | (at_builtin; refine wpl_append2 rfl (.tmp 39) (.tmp 46) 39 rfl w2.heap.size 9 i0 (.string ⟨#[]⟩) 1 16 Try.underlying39 HI.out HZ0.out HZ1.out HZ2.out rfl (by decide) (.slice oa i oc) i _ rfl HO4.out (.slice (some ⟨g, 0, none⟩) (l.length - cap) 0) (l.length - cap) _ rfl (rd_done cap HC0.out) (strs1 _) (by unfold maxLen; omega) (by omega) hs4.out ?_; intro vo5 w5 hown hgrow hap; obtain ⟨oa5, oc5, rfl⟩ := ow_sliceN hown; have HO5 := Lib.hid hown; have HB5 : Hid (Below w2.heap.size w2 w5) := HB4.out.trans ((Fr.of_grownBy hgrow).below hs4.out (fun i hi => (own_blk HO4.out hi).1)); have hq5 := fr_bel0 HB5.out; have k5 := hq5.cell k1 (fun h => h); have l5 := free_of_blk ((hq5.block mr hmr (fun h => h)).trans HX2.out.blk) 1; clear hown hgrow hap hq5))
    go_ret
    have hpi := place_del HS.out HIK.out
    have hji : i + 1 = cap := HJ.out
    rw [hji] at hpi
    have hlen : (l.take i ++ l.drop cap).length = i + (l.length - cap) := by simp; omega
    have hx5 := (HX2.out.quiet (fr_bel0 HB5.out)).all (l' := l.take i ++ l.drop cap) (b := w2.heap.size) (Nat.le_trans HB1.out HF2.out.size) (fun k hk => (HX2.out.lt k hk).2) (by rw [hlen]; have h9 := HO5.out; rw [List.map_append]; exact h9)
    have hs5 := HB5.out.size
    have hs1 := HF1.out.size
    have hs2 := HF2.out.size
    have hg2 := del_lens2 (stepN N) key L.length 1048576 true (stepN_lens HLO.out.1 HLO.out.2).1 (stepN_lens HLO.out.1 HLO.out.2).2 (by have := HLE.out; omega)
    refine ⟨rfl, l.take i ++ l.drop cap, ⟨⟨_, _, _, _, hx5.wide (F' := Grew F w _) (fun k hk => grew_set.2 ?_) (fun k hk => ?_)⟩, hpi.1, ?_, by rw [hlen]; omega, fun x hx => ?_, hg2.1, hg2.2⟩, ?_⟩
    · rcases hk with ((hk | hk) | hk) | hk
      · exact .inl hk
      · exact .inr ⟨hk.1, by omega⟩
      · exact .inr ⟨by omega, by omega⟩
      · exact .inr ⟨by omega, hk.2⟩
    · rcases grew_set.1 hk with hk | hk
      · exact hx5.lt k (.inl (.inl (.inl hk)))
      · exact ⟨by omega, by rw [World.size_setCell]; exact hk.2⟩
    · obtain ⟨x0, hx0⟩ := fdG_some HAN.out
      have h1 := (permG_erase L j0 _ hx0).map (·.1)
      rw [List.map_cons] at h1
      have h2 : delG L key = L.eraseIdx j0 := by unfold delG; rw [HAN.out]
      rw [h2]
      exact ((hpi.2.symm.trans HP.out).trans h1).cons_inv
    · exact HZ.out x (hpi.2.mem_iff.2 (List.mem_cons_of_mem _ hx))
    · refine (((HF1.out.wide HF2.out (fun k hk => hk.imp id (fun q => q.1))).wide (fr_bel0 HB5.out) (fun _ h => h.elim))).thenSet _ _ (fun _ => HX.out.fm)
  · have hcap : j < cap := by have := HC0.out; omega
    go_wp2_with (first | (at_builtin; refine wpl_append2 rfl (.tmp 30) (.tmp 36) 39 rfl w2.heap.size 9 i0 (.string ⟨#[]⟩) 1 16 Try.underlying39 HI.out HZ0.out HZ1.out HZ2.out rfl (by decide) (.slice none 0 0) 0 [] rfl (World.ownsRow_nil _ _ _ _) (.slice (some ⟨g, 0, none⟩) i cap) i _ rfl (rd_pre HR2.out i (by omega)) (strs1 _) (by unfold maxLen; omega) (by omega) (Nat.le_refl _) ?_; intro vo w3 hown hgrow hap; rw [Nat.zero_add, List.nil_append] at hown; obtain ⟨oa, oc, rfl⟩ := ow_sliceN hown; have HO4 := Lib.hid hown; have HB4 : Hid (Below w2.heap.size w2 w3) := (Fr.of_grownBy hgrow).below (Nat.le_refl _) (fun i hi => (by cases hi)); have hs4 : Hid (w2.heap.size ≤ w3.heap.size) := HB4.out.size; have hq4 := fr_bel0 HB4.out; have k4 := hq4.cell k1 (fun h => h); have HR4 := Lib.hid (HR2.out.fr hq4 (fun _ _ h => h)); clear hown hgrow hap hq4) | (at_builtin; refine wpl_append2 rfl (.tmp 39) (.tmp 46) 39 rfl w2.heap.size 9 i0 (.string ⟨#[]⟩) 1 16 Try.underlying39 HI.out HZ0.out HZ1.out HZ2.out rfl (by decide) (.slice oa i oc) i _ rfl HO4.out (.slice (some ⟨g, j, none⟩) (l.length - j) (cap - j)) (l.length - j) _ rfl (by have := rd_suf HR4.out j hjl; rw [Nat.zero_add] at this; exact this) (strs1 _) (by unfold maxLen; omega) (by omega) hs4.out ?_; intro vo5 w5 hown hgrow hap; obtain ⟨oa5, oc5, rfl⟩ := ow_sliceN hown; have HO5 := Lib.hid hown; have HB5 : Hid (Below w2.heap.size w2 w5) := HB4.out.trans ((Fr.of_grownBy hgrow).below hs4.out (fun i hi => (own_blk HO4.out hi).1)); have hq5 := fr_bel0 HB5.out; have k5 := hq5.cell k1 (fun h => h); have l5 := free_of_blk ((hq5.block mr hmr (fun h => h)).trans HX2.out.blk) 1; clear hown hgrow hap hq5))
    go_ret
    have hpi := place_del HS.out HIK.out
    have hji : i + 1 = j := HJ.out
    rw [hji] at hpi
    have hlen : (l.take i ++ l.drop j).length = i + (l.length - j) := by simp; omega
    have hx5 := (HX2.out.quiet (fr_bel0 HB5.out)).all (l' := l.take i ++ l.drop j) (b := w2.heap.size) (Nat.le_trans HB1.out HF2.out.size) (fun k hk => (HX2.out.lt k hk).2) (by rw [hlen]; have h9 := HO5.out; rw [List.map_append]; exact h9)
    have hs5 := HB5.out.size
    have hs1 := HF1.out.size
    have hs2 := HF2.out.size
    have hg2 := del_lens2 (stepN N) key L.length 1048576 true (stepN_lens HLO.out.1 HLO.out.2).1 (stepN_lens HLO.out.1 HLO.out.2).2 (by have := HLE.out; omega)
    refine ⟨rfl, l.take i ++ l.drop j, ⟨⟨_, _, _, _, hx5.wide (F' := Grew F w _) (fun k hk => grew_set.2 ?_) (fun k hk => ?_)⟩, hpi.1, ?_, by rw [hlen]; omega, fun x hx => ?_, hg2.1, hg2.2⟩, ?_⟩
    · rcases hk with ((hk | hk) | hk) | hk
      · exact .inl hk
      · exact .inr ⟨hk.1, by omega⟩
      · exact .inr ⟨by omega, by omega⟩
      · exact .inr ⟨by omega, hk.2⟩
    · rcases grew_set.1 hk with hk | hk
      · exact hx5.lt k (.inl (.inl (.inl hk)))
      · exact ⟨by omega, by rw [World.size_setCell]; exact hk.2⟩
    · obtain ⟨x0, hx0⟩ := fdG_some HAN.out
      have h1 := (permG_erase L j0 _ hx0).map (·.1)
      rw [List.map_cons] at h1
      have h2 : delG L key = L.eraseIdx j0 := by unfold delG; rw [HAN.out]
      rw [h2]
      exact ((hpi.2.symm.trans HP.out).trans h1).cons_inv
    · exact HZ.out x (hpi.2.mem_iff.2 (List.mem_cons_of_mem _ hx))
    · refine (((HF1.out.wide HF2.out (fun k hk => hk.imp id (fun q => q.1))).wide (fr_bel0 HB5.out) (fun _ h => h.elim))).thenSet _ _ (fun _ => HX.out.fm)
theorem rfDel_any (h : RefF w B mr F N L l) (hB : B ≤ w.heap.size) (hk : key.size ≤ maxLen) :
    Calls Try.prog 108 #[.pointer (some ⟨mr, 0, none⟩), .string key] w fun e w' => e = .returned (.bool (fdG key L).isSome) ∧ ∃ N' l', RfGot w B mr F N' (delG L key) l' w' ∧
      ((fdG key L = none ∧ N' = stepN N) ∨ ((fdG key L).isSome = true ∧ N' = delN (stepN N) key true L.length)) := by
  cases ha : fdG key L with
  | none =>
    refine (rfDel_none w B mr F N L l key h hB (by rw [ha]; rfl)).mono ?_
    rintro e w' ⟨h1, h2⟩
    have h3 : delG L key = L := by unfold delG; rw [ha]
    rw [h3]
    exact ⟨h1, _, l, h2, .inl ⟨rfl, rfl⟩⟩
  | some j0 =>
    refine (rfDel_there w B mr F N L l key j0 h hB hk ha).mono ?_
    rintro e w' ⟨h1, l', h2⟩
    exact ⟨h1, _, l', h2, .inr ⟨rfl, rfl⟩⟩
end
end Go.Proofs.Ytgomilodeaafdaa
namespace Go.Proofs.Ytgomilodeaafdaa
open Go.RowKit
section
variable (w : World) (B mr p : Nat) (F Fd : Nat → Prop) (N : NM) (L : Pl) (l : List ByteArray) (X : RB) (av : Value)
theorem rfScan_any (M : DM) (h : RefFx w B mr F (nmM M) L l p Fd X av) (hi : Inv M) (ho : M.old.length ≤ 2097152) (hy : M.young.length ≤ 2097152) (hn : M.n ≤ 1048576) (c : UInt64) (count : Int) (hcl : -9223372036854775808 ≤ count) (hch : count ≤ 9223372036854775807) :
    Calls Try.prog 114 #[.pointer (some ⟨mr, 0, none⟩), .int .u64 (wd c), .int .i64 count] w fun e w' => ∃ u, e = .returned (.tuple #[.int .u64 ((scanK M c.toNat count).1 : Nat), u]) ∧ RowS w.heap.size w' u (scanK M c.toNat count).2 ∧ Fr (fun _ => False) w w' := by
  have c2 := h.cells.2.2
  have HT := Lib.hid (rdTables_any w B p Fd (nmM M) _ _ X h.d.c)
  obtain ⟨r1, r2⟩ := h.d.c.rows6
  have HN := Lib.hid (fun m => refNext_any (w.drewN m) _ _ M c count hi (by omega) (by omega) (by omega) hcl hch (r1.fr (Fr.drewN _ w m)) (r2.fr (Fr.drewN _ w m)))
  obtain ⟨a1, e1⟩ := rowV_eq X.t1 X.r1
  obtain ⟨a2, e2⟩ := rowV_eq X.t2 X.r2
  rw [e1, e2] at HT HN
  obtain ⟨c0, hc0⟩ : ∃ c0, wd c = c0 := ⟨_, rfl⟩
  rw [hc0] at HN ⊢
  clear h r1 r2 e1 e2 hi hc0
  go_enter Try.func114, Try.ntmps114
  go_wp2_with fail
  refine HT.out.mono ?_
  rintro e w' ⟨rfl, m, rfl⟩
  go_wp2_with fail
  refine (HN.out m).mono ?_
  rintro e w3 ⟨u, rfl, h1, h2⟩
  have H1 := Lib.hid h1
  have H2 := Lib.hid h2
  clear h1 h2
  go_wp2_with fail
  go_ret2
  exact ⟨u, rfl, H1.out, (Fr.drewN (fun _ => False) w m).trans (fr_bel0 H2.out) (fun _ h _ => h)⟩
def costL (l : List ByteArray) : Nat := (l.map fun x => 24 + x.size).sum
theorem costL_snoc (l : List ByteArray) (x : ByteArray) : costL (l ++ [x]) = costL l + (24 + x.size) := by unfold costL; simp
theorem costL_le (l : List ByteArray) (h : ∀ x ∈ l, x.size ≤ 1048576) : costL l ≤ l.length * 1048600 := by
  induction l with
  | nil => simp [costL]
  | cons x l ih =>
    have h1 := ih (fun y hy => h y (List.mem_cons_of_mem _ hy))
    have h2 := h x (List.mem_cons_self ..)
    have e : costL (x :: l) = 24 + x.size + costL l := by unfold costL; simp
    rw [e, List.length_cons, Nat.add_mul]
    omega
set_option maxRecDepth 100000 in
theorem rfCost_any (h : RefFx w B mr F N L l p Fd X av) (hl : l.length ≤ 1048576) (hz : ∀ x ∈ l, x.size ≤ 1048576) :
    Calls Try.prog 113 #[.pointer (some ⟨mr, 0, none⟩)] w fun e w' => e = .returned (.int .i64 (costL l : Nat)) ∧ Fr (fun _ => False) w w' := by
  have HM := Lib.hid (rfMembers_any w B mr p F Fd N L l X av h (by omega))
  have HZ := Lib.hid hz
  clear h hz
  go_enter Try.func113, Try.ntmps113
  go_wp2_with fail
  refine HM.out.mono ?_
  rintro e w1 ⟨v, rfl, hr, hf⟩
  obtain ⟨va, vc, rfl⟩ := owns_slice hr
  have HR := Lib.hid (RdC.of_owns hr)
  have HF := Lib.hid hf
  clear hr hf HM
  go_wp2_with fail
  go_loop [3, 9] (fun s i => ∃ k : Nat, k ≤ l.length ∧ i = .int .i64 k ∧ s = .int .i64 (costL (l.take k) : Nat)) (fun _ i => l.length - (intOf i).toNat)
  case atStart => exact ⟨0, Nat.zero_le _, rfl, rfl⟩
  case round =>
    obtain ⟨k, hk, rfl, rfl⟩ := hrel
    by_cases hlt : k < l.length
    · obtain ⟨g, off, rfl, hc⟩ := rd_text HR.out k hlt
      obtain ⟨x, hx⟩ : ∃ x, l[k] = x := ⟨_, rfl⟩
      rw [hx] at hc
      have htk : costL (l.take (k + 1)) = costL (l.take k) + (24 + x.size) := by rw [List.take_succ_eq_append_getElem hlt, hx, costL_snoc]
      have HTK := Lib.hid htk
      have hxs : x.size ≤ 1048576 := by rw [← hx]; exact HZ.out _ (List.getElem_mem hlt)
      have hcb : costL (l.take k) ≤ 1048576 * 1048600 := by
        have h1 := costL_le (l.take k) (fun y hy => HZ.out y (List.mem_of_mem_take hy))
        have h2 : (l.take k).length ≤ 1048576 := by rw [List.length_take]; omega
        exact Nat.le_trans h1 (Nat.mul_le_mul_right _ h2)
      obtain ⟨c, hcc⟩ : ∃ c, costL (l.take k) = c := ⟨_, rfl⟩
      rw [hcc] at HTK hcb ⊢
      have b0 : (0 : Int) ≤ (k : Int) := by omega
      have b1 : (k : Int) < (l.length : Int) := by omega
      have e1 : IntKind.i64.wrap (24 + (x.size : Int)) = ((24 + x.size : Nat) : Int) := by rw [IntWalk.i64_in _ (by omega)]; omega
      have e2 : (24 + (x.size : Int)) = ((24 + x.size : Nat) : Int) := by omega
      obtain ⟨d, hd⟩ : ∃ d, 24 + x.size = d := ⟨_, rfl⟩
      rw [hd] at e1 e2 HTK
      have e3 : IntKind.i64.wrap ((c : Int) + (d : Int)) = ((c + d : Nat) : Int) := by rw [IntWalk.i64_in _ (by omega)]; omega
      clear hx htk hcc hd hcb
      go_wp2_with fail
      go_round
      case rel => exact ⟨k + 1, by omega, by go_num, by rw [HTK.out]; first | rfl | go_num⟩
      case measure => simp [intOf]; omega
    · obtain rfl : k = l.length := by omega
      rw [List.take_length]
      go_wp2_with fail
      go_ret
      exact ⟨rfl, HF.out⟩
end
section
variable (w : World) (k : ByteArray)
theorem rfLen_nil : Calls Try.prog 112 #[.pointer none] w fun e w' => e = .returned (.int .i64 0) ∧ w = w' := by
  go_enter Try.func112, Try.ntmps112
  go_wp2
  go_ret
  exact ⟨rfl, rfl⟩
theorem rfHas_nil : Calls Try.prog 109 #[.pointer none, .string k] w fun e w' => e = .returned (.bool false) ∧ w = w' := by
  go_enter Try.func109, Try.ntmps109
  go_wp2
  go_ret
  exact ⟨rfl, rfl⟩
theorem rfMembers_nil : Calls Try.prog 111 #[.pointer none] w fun e w' => e = .returned (.slice none 0 0) ∧ w = w' := by
  go_enter Try.func111, Try.ntmps111
  go_wp2
  go_ret
  exact ⟨rfl, rfl⟩
theorem rfSample_nil (n : Int) : Calls Try.prog 110 #[.pointer none, .int .u64 n] w fun e w' => e = .returned (.tuple #[.string ⟨#[]⟩, .bool false]) ∧ w = w' := by
  go_enter Try.func110, Try.ntmps110
  go_wp2_with (refine (rfLen_nil w).mono ?_; rintro e w' ⟨rfl, rfl⟩)
  go_ret2
  exact ⟨rfl, rfl⟩
theorem rfScan_nil (c count : Int) : Calls Try.prog 114 #[.pointer none, .int .u64 c, .int .i64 count] w fun e w' => e = .returned (.tuple #[.int .u64 0, .slice none 0 0]) ∧ w = w' := by
  go_enter Try.func114, Try.ntmps114
  go_wp2
  go_ret2
  exact ⟨rfl, rfl⟩
theorem rfCost_nil : Calls Try.prog 113 #[.pointer none] w fun e w' => e = .returned (.int .i64 0) ∧ w = w' := by
  go_enter Try.func113, Try.ntmps113
  go_wp2_with fail
  refine (rfMembers_nil w).mono ?_
  rintro e w' ⟨rfl, rfl⟩
  go_wp2_with fail
  go_loop [3, 9] (fun s i => i = .int .i64 0 ∧ s = .int .i64 0) (fun _ _ => 0)
  case atStart => exact ⟨rfl, rfl⟩
  case round =>
    obtain ⟨rfl, rfl⟩ := hrel
    go_wp2_with fail
    go_ret
    exact ⟨rfl, rfl⟩
end
end Go.Proofs.Ytgomilodeaafdaa
