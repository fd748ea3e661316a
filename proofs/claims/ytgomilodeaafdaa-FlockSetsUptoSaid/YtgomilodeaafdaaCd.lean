/- A flock beside the document's. No condition. -/
import Derived.Test.YtgomilodeaafdaaBf
import Derived.Test.YtgomilodeaafdaaBj
import Derived.Test.YtgomilodeaafdaaBa
import Derived.Test.YtgomilodeaafdaaCc
import Derived.Lib.MinMax
import Derived.Test.YtgomilodeaafdaaBw
namespace Go.Proofs.Ytgomilodeaafdaa
open Go.ChangeShapes Go.WideShapes Go.ChangeAt Go.RowKit Du
/-- as many noughts as Big says -/
def bigN (big : Int) : Nat := (min big 1048578).toNat
def memS (m : ByteArray) (big : Int) : ByteArray := if big ≤ 0 then m else m ++ ⟨(List.replicate (bigN big) (0 : UInt8)).toArray⟩
theorem made_zero (n : Nat) (hn : n ≤ 2097152) : ∃ (cs : Array Value), (∀ w : World, (Instr.makeSlice 109 (.int .i64 n) (.int .i64 n)).run Try.prog w = .ok (.slice (some ⟨w.heap.size, 0, none⟩) n n) (w.alloc (.cells cs 5))) ∧
    ∀ w : World, (convert 109 9 (.slice (some ⟨w.heap.size, 0, none⟩) n n)).run Try.prog (w.alloc (.cells cs 5)).drew = .ok (.string ⟨(List.replicate n (0 : UInt8)).toArray⟩) (w.alloc (.cells cs 5)).drew := by
  obtain ⟨i0, hi, hz0, hz1, hz2⟩ := info_parts infoB
  refine ⟨((List.replicate n (0 : UInt8)).map u8).toArray, fun w => ?_, fun w => ?_⟩
  · have h := run_make (P := Try.prog) (w := w) 109 5 i0 (.int .u8 0) Try.underlying109 hi hz0 .i64 .i64 n n (by omega) (by omega) (by rw [hz2]; omega) (by omega)
    rw [h, hz1, Nat.mul_one, Int.toNat_natCast, show (Value.int IntKind.u8 0).cells = #[.int .u8 0] from rfl, madeCells_one, List.map_replicate]
    rfl
  · have hr := RdC.of_owns (World.ownsRow_lit (base := w.heap.size) (e := 5) (size := 1) w ((List.replicate n (0 : UInt8)).map u8).toArray n (Nat.le_refl _) (by unfold maxLen; omega) (by simp))
    obtain ⟨h1, ad, cap, e, h2, h3, h4, h5⟩ := hr
    cases e
    have h6 := run_convert_bytes_back (P := Try.prog) (w.alloc (.cells ((List.replicate n (0 : UInt8)).map u8).toArray 5)).drew 109 9 5 ⟨w.heap.size, 0, none⟩ n (List.replicate n (0 : UInt8)) Try.underlying109 Try.underlying5 Try.underlying9 (fun j hj => (Fr.drew (fun _ => False) _).cell (h5 _ rfl j _ (by rw [List.getElem?_map, List.getElem?_eq_getElem hj]; rfl)) (fun h => h))
    rw [List.length_replicate] at h6
    exact h6
set_option maxRecDepth 100000 in
set_option maxHeartbeats 2000000 in
theorem member_any (w : World) (who do_ : Int) (m : ByteArray) (big : Int) (n : Int) (count : Int) (hm : m.size ≤ 140737488355328) (hb : -9223372036854775808 ≤ big) :
    Calls Try.prog 107 #[.agg #[.int .i64 who, .int .i64 do_, .string m, .int .i64 big, .int .u64 n, .int .i64 count]] w fun e w' => e = .returned (.string (memS m big)) ∧ Fr (fun _ => False) w w' := by
  by_cases h0 : big ≤ 0
  · have e : memS m big = m := by unfold memS; rw [if_pos h0]
    rw [e]
    have g1 : decide (big ≤ 0) = true := decide_eq_true h0
    clear e h0
    go_enter Try.func107, Try.ntmps107
    go_wp2
    go_ret
    exact ⟨rfl, Fr.alloc _ _ _⟩
  · have g1 : decide (big ≤ 0) = false := decide_eq_false h0
    obtain ⟨nb, hnb⟩ : ∃ n, bigN big = n := ⟨_, rfl⟩
    have hmin : min big 1048578 = (nb : Int) := by rw [← hnb]; unfold bigN; omega
    have hnl : nb ≤ 1048578 := by omega
    obtain ⟨cs, hmk, hcv⟩ := made_zero nb (by omega)
    have e : memS m big = m ++ ⟨(List.replicate nb (0 : UInt8)).toArray⟩ := by unfold memS; rw [if_neg h0, hnb]
    obtain ⟨z, hz⟩ : ∃ z : ByteArray, ⟨(List.replicate nb (0 : UInt8)).toArray⟩ = z := ⟨_, rfl⟩
    have hzs : z.size = nb := by rw [← hz]; show (List.replicate nb (0 : UInt8)).toArray.size = nb; simp
    rw [hz] at e hcv
    rw [e]
    have HZS := Lib.hid hzs
    have hlim : ¬ 9223372036854775807 < m.size + z.size := by rw [hzs]; omega
    have hcv2 := hcv (w.alloc (.cells #[.int .i64 who, .int .i64 do_, .string m, .int .i64 big, .int .u64 n, .int .i64 count] 74))
    rw [World.size_alloc] at hcv2
    clear e h0 hnb hz hzs hcv
    go_enter Try.func107, Try.ntmps107
    go_wp2
    go_region
    go_wp2
    go_ret
    exact ⟨rfl, ((Fr.alloc (fun _ => False) w _).thenAlloc _).thenDrew⟩
theorem memS_size (m : ByteArray) (big : Int) (hm : m.size ≤ 140737488355328) : (memS m big).size ≤ maxLen := by
  unfold memS
  split
  · unfold maxLen; omega
  · rw [ByteArray.size_append]
    have e : (⟨(List.replicate (bigN big) (0 : UInt8)).toArray⟩ : ByteArray).size = bigN big := by show (List.replicate (bigN big) (0 : UInt8)).toArray.size = _; simp
    rw [e]
    unfold bigN maxLen
    omega
set_option maxRecDepth 100000 in
set_option maxHeartbeats 2000000 in
/-- writes into a list of its own, and grows it -/
theorem spoil10_any (w : World) (B : Nat) (v : Value) (n : Nat) (xs : List Value) (h : w.ownsRow B 9 1 v n xs) (hn : n ≤ 4398046511104) (hB : B ≤ w.heap.size) :
    Calls Try.prog 50 #[v] w fun e w' => e = .returned (.tuple #[]) ∧ Fr (fun k => v.ownBlock = some k) w w' := by
  obtain ⟨a, c, rfl⟩ := ow_sliceN h
  obtain ⟨i0, hi, hz0, hz1, hz2⟩ := info_parts info_str
  have HI := Lib.hid hi
  have HZ0 := Lib.hid hz0
  have HZ1 := Lib.hid hz1
  have HZ2 := Lib.hid hz2
  have H := Lib.hid h
  have hx1 := h.1
  have HX1 := Lib.hid hx1
  clear h hi hz0 hz1 hz2 hx1
  go_enter Try.func50, Try.ntmps50
  go_wp2_with fail
  go_loopw [6] (fun i wr => ∃ k : Nat, i = .int .i64 k ∧ k ≤ n ∧ Hid (∃ ys : List Value, wr.ownsRow B 9 1 (.slice a n c) n ys) ∧ Hid (Fr (fun k => (Value.slice a n c).ownBlock = some k) w wr)) (fun i _ => n - (intOf i).toNat)
  case atStart => exact ⟨0, rfl, by omega, ⟨xs, H.out⟩, Fr.refl _ _⟩
  case round =>
    obtain ⟨k, rfl, hk, HO, HF⟩ := hrel
    obtain ⟨wo, rfl⟩ : ∃ wo, wo = wr := ⟨_, rfl⟩
    obtain ⟨ys, hys⟩ := HO.out
    have HY := Lib.hid hys
    clear hys
    by_cases hlt : k < n
    · obtain ⟨g, cap, e, -, -⟩ := HY.out.form (by omega)
      cases e
      have hlen := HY.out.1
      obtain ⟨y, hy⟩ : ∃ y, ys[k]? = some y := ⟨_, List.getElem?_eq_getElem (by omega)⟩
      have hc : wo.cell? ⟨g, k, none⟩ = some y := (HY.out.cellAt k (by omega)).trans hy
      have hz := HY.out.frozenAt k
      have HST := Lib.hid (HY.out.stored k (.string ⟨#[115, 112, 111, 105, 108, 116]⟩)).1
      have b0 : (0 : Int) ≤ (k : Int) := by omega
      have b1 : (k : Int) < (n : Int) := by omega
      clear hlen hy HO
      go_wp2_with fail
      go_roundw
      case rel => exact ⟨k + 1, by go_num, by omega, ⟨_, HST.out⟩, HF.out.thenSet _ _ (fun _ => rfl)⟩
      case measure => simp [intOf]; omega
    · obtain rfl : k = n := by omega
      clear HO
      go_wp2_with fail
      go_loopw [3, 14] (fun vg i wr => ∃ (j : Nat) (zs : List Value), i = .int .i64 j ∧ j ≤ 20 ∧ Hid (wr.ownsRow B 9 1 vg (k + j) zs) ∧ Hid (∀ g, vg.ownBlock = some g → (Value.slice a k c).ownBlock = some g ∨ w.heap.size ≤ g) ∧ Hid (Fr (fun k' => (Value.slice a k c).ownBlock = some k') w wr)) (fun _ i _ => 20 - (intOf i).toNat)
      case atStart => exact ⟨0, ys, rfl, by omega, HY.out, fun g hg => .inl hg, HF⟩
      case round =>
        obtain ⟨j, zs, rfl, hj, HG, HA, HF2⟩ := hrel
        obtain ⟨vg, rfl⟩ : ∃ v, v = u3 := ⟨_, rfl⟩
        obtain ⟨wq, rfl⟩ : ∃ wo, wo = wr := ⟨_, rfl⟩
        have hg0 := HG.out
        obtain ⟨ga, gc, rfl⟩ := ow_sliceN hg0
        clear hg0 hlt HF
        by_cases hj2 : j < 20
        · have b0 : (0 : Int) ≤ (j : Int) := by omega
          have b1 : (j : Int) < 20 := by omega
          have hsq : Hid (B ≤ wq.heap.size ∧ w.heap.size ≤ wq.heap.size) := ⟨Nat.le_trans hB HF2.out.size, HF2.out.size⟩
          go_wp2_with (at_builtin; refine wpl_append2 rfl (.tmp 16) (.tmp 17) 39 rfl B 9 i0 (.string ⟨#[]⟩) 1 16 Try.underlying39 HI.out HZ0.out HZ1.out HZ2.out rfl (by decide) (.slice ga (k + j) gc) (k + j) _ rfl (HG.out.alloc _) _ 1 [.string ⟨#[109, 111, 114, 101]⟩] rfl (RdC.of_owns (World.ownsRow_lit (base := wq.heap.size) (e := 9) (size := 1) wq #[.string ⟨#[109, 111, 114, 101]⟩] 1 (Nat.le_refl _) (by decide) rfl)) (by simp [Value.oneCell']) (by unfold maxLen; omega) (by omega) (by rw [World.size_alloc]; have := hsq.out.1; omega) ?_; intro vo w6 hown hgrow hap; have HO6 := Lib.hid hown; have HF6 : Hid (Fr (fun k' => (Value.slice a k c).ownBlock = some k') w w6) := (HF2.out.thenAlloc _).wide (Fr.of_grownBy hgrow) (fun g hg => HA.out g hg); have HA6 : Hid (∀ g, vo.ownBlock = some g → (Value.slice a k c).ownBlock = some g ∨ w.heap.size ≤ g) := (fun g hg => (hap g hg).elim (fun h => HA.out g h) (fun h => .inr (by rw [World.size_alloc] at h; have := hsq.out.2; omega))); clear hown hgrow hap)
          go_roundw
          case rel => exact ⟨j + 1, _, by go_num, by omega, HO6, HA6, HF6⟩
          case measure => simp [intOf]; omega
        · obtain rfl : j = 20 := by omega
          obtain ⟨g, cap, e, -, -⟩ := HG.out.form (by omega)
          cases e
          have hlen := HG.out.1
          obtain ⟨y, hy⟩ : ∃ y, zs[0]? = some y := ⟨_, List.getElem?_eq_getElem (by omega)⟩
          have hc : wq.cell? ⟨g, 0, none⟩ = some y := (HG.out.cellAt 0 (by omega)).trans hy
          have hz := HG.out.frozenAt 0
          have b2 : (0 : Int) < ((k + 20 : Nat) : Int) := by omega
          have b3 : decide ((0 : Int) < ((k + 20 : Nat) : Int)) = true := decide_eq_true b2
          have b4 : 0 < k + 20 := by omega
          clear hlen hy
          go_wp2_with fail
          go_end0
          exact ⟨rfl, HF2.out.thenSet _ _ (fun hl => (HA.out g rfl).elim id (fun e => absurd hl (Nat.not_lt.2 e)))⟩
end Go.Proofs.Ytgomilodeaafdaa
namespace Go.Proofs.Ytgomilodeaafdaa
open Go.ChangeShapes Go.WideShapes Go.ChangeAt Go.RowKit Du
/-- the members beside noughts -/
def L0 (A : List Me) : Pl := A.map fun x => (x.1, (0 : Int))
theorem L0_len (A : List Me) : (L0 A).length = A.length := List.length_map ..
theorem L0_keys (A : List Me) : (L0 A).map (·.1) = A.map (·.1) := by unfold L0; rw [List.map_map]; rfl
theorem fdG_L0 (key : ByteArray) (A : List Me) : fdG key (L0 A) = fdG key A := by
  induction A with
  | nil => rfl
  | cons x A ih =>
    show (if x.1 = key then some 0 else (fdG key (L0 A)).map (· + 1)) = (if x.1 = key then some 0 else (fdG key A).map (· + 1))
    rw [ih]
theorem L0_new {key : ByteArray} {A : List Me} (h : fdG key A = none) : L0 A ++ [(key, 0)] = L0 (setG A key ()) := by
  rw [setG_none h]
  unfold L0
  rw [List.map_append]
  rfl
theorem setG_same {key : ByteArray} {A : List Me} (h : (fdG key A).isSome = true) : setG A key () = A := by
  cases hf : fdG key A with
  | none => rw [hf] at h; cases h
  | some i =>
    obtain ⟨⟨⟩, hw⟩ := fdG_some hf
    rw [setG_some hf]
    refine List.ext_getElem? fun j => ?_
    rw [List.getElem?_set]
    split
    · next h => subst h; rw [if_pos (fdG_lt hf), hw]
    · rfl
theorem map_erase {α β : Type} (f : α → β) : ∀ (l : List α) (i : Nat), (l.eraseIdx i).map f = (l.map f).eraseIdx i
  | [], _ => rfl
  | _ :: _, 0 => rfl
  | x :: l, i + 1 => by simp only [List.eraseIdx_cons_succ, List.map_cons]; rw [map_erase f l i]
theorem L0_del (key : ByteArray) (A : List Me) : delG (L0 A) key = L0 (delG A key) := by
  unfold delG
  rw [fdG_L0]
  cases fdG key A with
  | none => rfl
  | some i =>
    show (L0 A).eraseIdx i = L0 (A.eraseIdx i)
    exact (map_erase _ A i).symm
/-- a flock and the document's, each in its own memory -/
structure Ha (w0 w : World) (F F1 F2 : Nat → Prop) (r d mr : Nat) (M : DM) (A : List Me) (N : NM) (L : Pl) (l : List ByteArray) : Prop where
  s1 : ∀ k, F1 k → F k
  s2 : ∀ k, F2 k → F k
  dis : ∀ k, F1 k → ¬ F2 k
  f : FloF w w0.heap.size F1 r d M A
  m : RefF w w0.heap.size mr F2 N L l
  lt : ∀ k, F k → w0.heap.size ≤ k ∧ k < w.heap.size
  bel : Below w0.heap.size w0 w
  lens : Lens M 1048576
/-- both hold the same -/
def Bo (w0 w : World) (F : Nat → Prop) (r mr : Nat) (A : List Me) : Prop := ∃ F1 F2 d M l, Ha w0 w F F1 F2 r d mr M A (nmM M) (L0 A) l
section
variable {w0 w w' w2 : World} {F F' F1 F2 T : Nat → Prop} {r d mr : Nat} {M M' : DM} {A A' : List Me} {N N' : NM} {L L' : Pl} {l l' : List ByteArray}
theorem RefF.other {B : Nat} (h : RefF w B mr F N L l) (hf : Fr T w w') (hd : ∀ k, F k → ¬ T k) : RefF w' B mr F N L l := by
  obtain ⟨⟨p, Fd, X, av, hx⟩, h2, h3, h4, h5, h6, h7⟩ := h
  exact ⟨⟨p, Fd, X, av, hx.other hf hd⟩, h2, h3, h4, h5, h6, h7⟩
theorem RefF.base {B B' : Nat} (h : RefF w B mr F N L l) (hb : B' ≤ B) : RefF w B' mr F N L l := by
  obtain ⟨⟨p, Fd, X, av, hx⟩, h2, h3, h4, h5, h6, h7⟩ := h
  exact ⟨⟨p, Fd, X, av, hx.base hb⟩, h2, h3, h4, h5, h6, h7⟩
theorem RefF.lts {B : Nat} (h : RefF w B mr F N L l) : ∀ k, F k → B ≤ k ∧ k < w.heap.size := by
  obtain ⟨⟨p, Fd, X, av, hx⟩, -⟩ := h
  exact hx.lt
theorem Ha.other (h : Ha w0 w F F1 F2 r d mr M A N L l) (hf : Fr T w w') (hd : ∀ k, F k → ¬ T k) (hT : ∀ k, T k → w0.heap.size ≤ k) : Ha w0 w' F F1 F2 r d mr M A N L l :=
  ⟨h.s1, h.s2, h.dis, h.f.other hf (fun k hk => hd k (h.s1 k hk)), h.m.other hf (fun k hk => hd k (h.s2 k hk)), fun k hk => ⟨(h.lt k hk).1, Nat.lt_of_lt_of_le (h.lt k hk).2 hf.size⟩, h.bel.trans (hf.below h.bel.size hT), h.lens⟩
theorem Ha.quiet (h : Ha w0 w F F1 F2 r d mr M A N L l) (hf : Fr (fun _ => False) w w') : Ha w0 w' F F1 F2 r d mr M A N L l := h.other hf (fun _ _ h => h) (fun _ h => h.elim)
theorem Ha.wide (h : Ha w0 w F F1 F2 r d mr M A N L l) (hF : ∀ k, F k → F' k) (hl : ∀ k, F' k → w0.heap.size ≤ k ∧ k < w.heap.size) : Ha w0 w F' F1 F2 r d mr M A N L l :=
  ⟨fun k hk => hF k (h.s1 k hk), fun k hk => hF k (h.s2 k hk), h.dis, h.f, h.m, hl, h.bel, h.lens⟩
theorem Grew.lts (h : ∀ k, F k → w0.heap.size ≤ k ∧ k < w.heap.size) (hb : w0.heap.size ≤ w.heap.size) (hs : w.heap.size ≤ w'.heap.size) : ∀ k, Grew F w w' k → w0.heap.size ≤ k ∧ k < w'.heap.size := fun k hk =>
  hk.elim (fun hk => ⟨(h k hk).1, Nat.lt_of_lt_of_le (h k hk).2 hs⟩) (fun hk => ⟨Nat.le_trans hb hk.1, hk.2⟩)
/-- the document's flock is turned -/
theorem Ha.rturn (h : Ha w0 w F F1 F2 r d mr M A N L l) (g : RfGot w w0.heap.size mr F2 N' L' l' w') : Ha w0 w' (Grew F w w') F1 (Grew F2 w w') r d mr M A N' L' l' ∧ Fr F w w' := by
  have hf : Fr F w w' := g.2.mono (fun i hi _ => h.s2 i hi)
  refine ⟨⟨fun k hk => .inl (h.s1 k hk), fun k hk => hk.imp (h.s2 k) id, fun k hk hk2 => ?_, h.f.other g.2 (fun k hk hk2 => h.dis k hk hk2), g.1, Grew.lts h.lt h.bel.size hf.size, h.bel.trans (hf.below h.bel.size (fun i hi => (h.lt i hi).1)), h.lens⟩, hf⟩
  rcases hk2 with hk2 | hk2
  · exact h.dis k hk hk2
  · have := (h.lt k (h.s1 k hk)).2; omega
/-- the flock is turned -/
theorem Ha.fturn (h : Ha w0 w F F1 F2 r d mr M A N L l) (g : FloGot w w0.heap.size F1 r d M' A' w') (hl : Lens M' 1048576) : Ha w0 w' (Grew F w w') (Grew F1 w w') F2 r d mr M' A' N L l ∧ Fr F w w' := by
  have hf : Fr F w w' := g.2.mono (fun i hi _ => h.s1 i hi)
  refine ⟨⟨fun k hk => hk.imp (h.s1 k) id, fun k hk => .inl (h.s2 k hk), fun k hk hk2 => ?_, g.1, h.m.other g.2 (fun k hk hk2 => h.dis k hk2 hk), Grew.lts h.lt h.bel.size hf.size, h.bel.trans (hf.below h.bel.size (fun i hi => (h.lt i hi).1)), hl⟩, hf⟩
  rcases hk with hk | hk
  · exact h.dis k hk hk2
  · have := (h.lt k (h.s2 k hk2)).2; omega
/-- two turns -/
theorem Ha.two (h : Ha w0 w2 (Grew (Grew F w w') w' w2) F1 F2 r d mr M A N L l) (h1 : Fr F w w') (h2 : Fr (Grew F w w') w' w2) (hl : ∀ k, F k → w0.heap.size ≤ k ∧ k < w.heap.size) (hb : w0.heap.size ≤ w.heap.size) : Ha w0 w2 (Grew F w w2) F1 F2 r d mr M A N L l ∧ Fr F w w2 := by
  have hs1 := h1.size
  have hs2 := h2.size
  refine ⟨h.wide (fun k hk => ?_) (Grew.lts hl hb (Nat.le_trans hs1 hs2)), h1.wide h2 (fun k hk => hk.imp id (fun q => q.1))⟩
  rcases hk with (hk | hk) | hk
  · exact .inl hk
  · exact .inr ⟨hk.1, by omega⟩
  · exact .inr ⟨by omega, hk.2⟩
def BoTo (w0 w : World) (F : Nat → Prop) (r mr : Nat) (w' : World) : Prop := ∃ A', Bo w0 w' (Grew F w w') r mr A' ∧ Fr F w w'
theorem Bo.lts (h : Bo w0 w F r mr A) : (∀ k, F k → w0.heap.size ≤ k ∧ k < w.heap.size) ∧ Below w0.heap.size w0 w := by
  obtain ⟨F1, F2, d, M, l, h⟩ := h
  exact ⟨h.lt, h.bel⟩
theorem Bo.other (h : Bo w0 w F r mr A) (hf : Fr T w w') (hd : ∀ k, F k → ¬ T k) (hT : ∀ k, T k → w0.heap.size ≤ k) : Bo w0 w' F r mr A := by
  obtain ⟨F1, F2, d, M, l, h⟩ := h
  exact ⟨F1, F2, d, M, l, h.other hf hd hT⟩
theorem Bo.quiet (h : Bo w0 w F r mr A) (hf : Fr (fun _ => False) w w') : Bo w0 w' F r mr A := h.other hf (fun _ _ h => h) (fun _ h => h.elim)
theorem Bo.wide (h : Bo w0 w F r mr A) (hF : ∀ k, F k → F' k) (hl : ∀ k, F' k → w0.heap.size ≤ k ∧ k < w.heap.size) : Bo w0 w F' r mr A := by
  obtain ⟨F1, F2, d, M, l, h⟩ := h
  exact ⟨F1, F2, d, M, l, h.wide hF hl⟩
theorem Bo.stay (h : Bo w0 w F r mr A) (hf : Fr (fun _ => False) w w') : BoTo w0 w F r mr w' :=
  ⟨A, (h.quiet hf).wide (fun _ hk => .inl hk) (Grew.lts h.lts.1 h.lts.2.size hf.size), hf.mono (fun _ hk _ => hk.elim)⟩
theorem BoTo.two {w1 : World} (hl : ∀ k, F k → w0.heap.size ≤ k ∧ k < w.heap.size) (hb : w0.heap.size ≤ w.heap.size) (h1 : Fr F w w1) (h : BoTo w0 w1 (Grew F w w1) r mr w2) : BoTo w0 w F r mr w2 := by
  obtain ⟨A', h2, h3⟩ := h
  have hs1 := h1.size
  have hs2 := h3.size
  refine ⟨A', h2.wide (fun k hk => ?_) (Grew.lts hl hb (Nat.le_trans hs1 hs2)), h1.wide h3 (fun k hk => hk.imp id (fun q => q.1))⟩
  rcases hk with (hk | hk) | hk
  · exact .inl hk
  · exact .inr ⟨hk.1, by omega⟩
  · exact .inr ⟨by omega, hk.2⟩
end
end Go.Proofs.Ytgomilodeaafdaa
namespace Go.Proofs.Ytgomilodeaafdaa
open Go.ChangeShapes Go.WideShapes Go.ChangeAt Go.RowKit Du
theorem costL_perm {l l' : List ByteArray} (h : l.Perm l') : costL l = costL l' := by
  unfold costL
  exact (h.map _).sum_nat
theorem costM_L (A : List Me) : costM A = costL (A.map (·.1)) := by
  unfold costM costL
  rw [List.map_map]
  rfl
/-- a list handed back, in new memory -/
structure Nw (b : Nat) (w : World) (v : Value) (l : List ByteArray) : Prop where
  own : w.ownsRow b 9 1 v l.length (l.map .string)
theorem Nw.rd {b : Nat} {w : World} {v : Value} {l : List ByteArray} (h : Nw b w v l) : RdC w 1 v l.length (l.map .string) := RdC.of_owns h.own
theorem Nw.fr {b : Nat} {w w' : World} {v : Value} {l : List ByteArray} {T : Nat → Prop} (h : Nw b w v l) (hf : Fr T w w') (hT : ∀ k, T k → k < b) : Nw b w' v l := ⟨ow_fr h.own hf (fun g hg ht => by have := (own_blk h.own hg).1; have := hT g ht; omega)⟩
theorem Nw.quiet {b : Nat} {w w' : World} {v : Value} {l : List ByteArray} (h : Nw b w v l) (hf : Fr (fun _ => False) w w') : Nw b w' v l := ⟨ow_fr h.own hf (fun _ _ h => h)⟩
theorem Nw.slice {b : Nat} {w : World} {v : Value} {l : List ByteArray} (h : Nw b w v l) : ∃ a c, v = .slice a l.length c := ow_sliceN h.own
section
variable {w0 w : World} {F F1 F2 : Nat → Prop} {r d mr : Nat} {M : DM} {A : List Me} {l : List ByteArray}
theorem Ha.lists {N : NM} (h : Ha w0 w F F1 F2 r d mr M A N (L0 A) l) : l.Perm (A.map (·.1)) := by have := h.m.perm; rwa [L0_keys] at this
theorem bo_members (h : Ha w0 w F F1 F2 r d mr M A (nmM M) (L0 A) l) : Calls Try.prog 54 #[.pointer (some ⟨r, 0, none⟩)] w fun e w' => ∃ a c, e = .returned (.slice a l.length c) ∧ Nw w.heap.size w' (.slice a l.length c) l ∧ Fr (fun _ => False) w w' := by
  refine (members_any w _ F1 r d M A h.f).mono ?_
  rintro e w1 ⟨v, l', rfl, q1, q2, q3, q4⟩
  obtain rfl : l' = l := ltS_one (q1.trans h.lists.symm) q2 h.m.rise
  have hl : l'.length = A.length := by have := q1.length_eq; rwa [List.length_map] at this
  rw [← hl] at q3
  obtain ⟨a, c, rfl⟩ := ow_sliceN q3
  exact ⟨a, c, rfl, ⟨q3⟩, q4⟩
theorem bo_rmembers (h : Ha w0 w F F1 F2 r d mr M A (nmM M) (L0 A) l) : Calls Try.prog 111 #[.pointer (some ⟨mr, 0, none⟩)] w fun e w' => ∃ a c, e = .returned (.slice a l.length c) ∧ Nw w.heap.size w' (.slice a l.length c) l ∧ Fr (fun _ => False) w w' := by
  obtain ⟨p, Fd, X, av, hx⟩ := h.m.x
  refine (rfMembers_any w _ mr p F2 Fd _ _ l X av hx (by have := h.m.few; omega)).mono ?_
  rintro e w1 ⟨v, rfl, q3, q4⟩
  have q5 : w1.ownsRow w.heap.size 9 1 v l.length (l.map .string) := q3
  obtain ⟨a, c, rfl⟩ := ow_sliceN q5
  exact ⟨a, c, rfl, ⟨q5⟩, q4⟩
set_option maxRecDepth 100000 in
set_option maxHeartbeats 2000000 in
theorem stands_any (h : Bo w0 w F r mr A) : Calls Try.prog 39 #[.pointer (some ⟨r, 0, none⟩), .pointer (some ⟨mr, 0, none⟩)] w fun e w' => e = .returned (.bool true) ∧ Fr (fun _ => False) w w' := by
  obtain ⟨F1, F2, d, M, l, h⟩ := h
  have H := Lib.hid h
  have hll : A.length = l.length := by have := h.lists.length_eq; rw [List.length_map] at this; exact this.symm
  have HLL := Lib.hid hll
  have hfew := h.m.few
  have hcost : costM A = costL l := by rw [costM_L]; exact (costL_perm h.lists).symm
  have HC := Lib.hid hcost
  have HM := Lib.hid (bo_members h)
  clear h hcost hll
  go_enter Try.func39, Try.ntmps39
  go_wp2_with fail
  refine HM.out.mono ?_
  rintro e w1 ⟨aa, ac, rfl, ha, hf1⟩
  have HA1 := Lib.hid ha
  have HA1L : Hid (∀ k, (Value.slice aa l.length ac).ownBlock = some k → k < w1.heap.size) := fun k hk => (own_blk ha.own hk).2.1
  have HF1 := Lib.hid hf1
  have HM2 := Lib.hid (bo_members (H.out.quiet hf1))
  clear ha hf1 HM
  go_wp2_with fail
  refine HM2.out.mono ?_
  rintro e w2 ⟨ba, bc, rfl, hb, hf2⟩
  have HB2 := Lib.hid hb
  have HF2 := Lib.hid (HF1.out.trans hf2 (fun _ h _ => h))
  have HA2 := Lib.hid (HA1.out.quiet hf2)
  have hs12 : w1.heap.size ≤ w2.heap.size := hf2.size
  have hs01 : w.heap.size ≤ w1.heap.size := HF1.out.size
  have HS12 := Lib.hid hs12
  have HS01 := Lib.hid hs01
  have HM3 := Lib.hid (bo_rmembers (H.out.quiet HF2.out))
  clear hb hf2 HM2 HA1 hs12 hs01
  go_wp2_with fail
  refine HM3.out.mono ?_
  rintro e w3 ⟨ca, cc, rfl, hc, hf3⟩
  have HC3 := Lib.hid hc
  have HF3 := Lib.hid (HF2.out.trans hf3 (fun _ h _ => h))
  have HA3 := Lib.hid (HA2.out.quiet hf3)
  have HB3 := Lib.hid (HB2.out.quiet hf3)
  have H3 := Lib.hid (H.out.quiet HF3.out)
  have HL3 := Lib.hid (floLen_any w3 _ F1 r d M A H3.out.f)
  have HK3 := Lib.hid (floCost_any w3 _ F1 r d M A H3.out.f)
  obtain ⟨p, Fd, X, av, hx⟩ := H3.out.m.x
  have HRL := Lib.hid (rfLen_any w3 _ mr p F2 Fd _ _ l X av hx)
  have HRC := Lib.hid (rfCost_any w3 _ mr p F2 Fd _ _ l X av hx hfew H3.out.m.size)
  rw [HLL.out] at HL3
  rw [HC.out] at HK3
  obtain ⟨cv, hcv⟩ : ∃ c, costL l = c := ⟨_, rfl⟩
  rw [hcv] at HK3 HRC
  have g1 : ((l.length : Int) == (l.length : Int)) = true := beq_self_eq_true _
  have g2 : ((cv : Int) == (cv : Int)) = true := beq_self_eq_true _
  have g3 : ((l.length : Int) != (l.length : Int)) = false := by rw [bne, g1]; rfl
  have g4 : ((cv : Int) != (cv : Int)) = false := by rw [bne, g2]; rfl
  clear hc hf3 HM3 HA2 HB2 hx hcv
  go_wp2_with fail
  refine HL3.out.mono ?_
  rintro e w' ⟨rfl, rfl⟩
  go_wp2_with fail
  refine HRL.out.mono ?_
  rintro e w' ⟨rfl, rfl⟩
  go_wp2_with fail
  refine HK3.out.mono ?_
  rintro e w' ⟨rfl, rfl⟩
  go_wp2_with fail
  refine HRC.out.mono ?_
  rintro e w4 ⟨rfl, hf4⟩
  have HF4 := Lib.hid (HF3.out.trans hf4 (fun _ h _ => h))
  have HA4 := Lib.hid (HA3.out.quiet hf4)
  have HB4 := Lib.hid (HB3.out.quiet hf4)
  have HC4 := Lib.hid (HC3.out.quiet hf4)
  have HSA := Lib.hid (same10_any w4 _ _ l l HA4.out.rd HC4.out.rd)
  rw [decide_eq_true rfl] at HSA
  clear hf4 HL3 HK3 HRL HRC HA3 HB3 HC3
  go_wp2_with fail
  refine HSA.out.mono ?_
  rintro e w' ⟨rfl, m1, rfl⟩
  have HSB := Lib.hid (same10_any (w4.drewN m1) _ _ l l (HB4.out.quiet (Fr.drewN _ _ _)).rd (HC4.out.quiet (Fr.drewN _ _ _)).rd)
  rw [decide_eq_true rfl] at HSB
  go_wp2_with fail
  refine HSB.out.mono ?_
  rintro e w' ⟨rfl, m2, rfl⟩
  obtain ⟨w5, hw5⟩ : ∃ w5, (w4.drewN m1).drewN m2 = w5 := ⟨_, rfl⟩
  have hf5 : Fr (fun _ => False) w4 w5 := by rw [← hw5]; exact (Fr.drewN _ _ _).thenDrewN _
  have HF5 := Lib.hid (HF4.out.trans hf5 (fun _ h _ => h))
  have HA5 := Lib.hid (HA4.out.quiet hf5)
  have HB5 := Lib.hid (HB4.out.quiet hf5)
  have HC5 := Lib.hid (HC4.out.quiet hf5)
  rw [hw5]
  have HSP := Lib.hid (spoil10_any w5 _ _ _ _ HA5.out.own (by omega) HF5.out.size)
  clear hw5 hf5 HSA HSB HA4 HB4 HC4
  go_wp2_with fail
  refine HSP.out.mono ?_
  rintro e w6 ⟨rfl, hf6⟩
  have hlt : ∀ k, (Value.slice aa l.length ac).ownBlock = some k → w.heap.size ≤ k ∧ k < w1.heap.size := fun k hk => ⟨(own_blk HA5.out.own hk).1, HA1L.out k hk⟩
  have HF6 := Lib.hid (HF5.out.wide hf6 (fun k hk => .inr (hlt k hk).1))
  have HB6 := Lib.hid (HB5.out.fr hf6 (fun k hk => (hlt k hk).2))
  have HC6 := Lib.hid (HC5.out.fr hf6 (fun k hk => by have := (hlt k hk).2; have := HS12.out; omega))
  have HS6 := Lib.hid (same10_any w6 _ _ l l HB6.out.rd HC6.out.rd)
  rw [decide_eq_true rfl] at HS6
  clear hf6 hlt HSP HA5 HB5 HC5
  go_wp2_with fail
  refine HS6.out.mono ?_
  rintro e w' ⟨rfl, m3, rfl⟩
  have HF7 := Lib.hid (HF6.out.thenDrewN m3)
  have HC7 := Lib.hid (HC6.out.quiet (Fr.drewN _ w6 m3))
  have HM7 := Lib.hid (bo_members (H.out.quiet HF7.out))
  go_wp2_with fail
  refine HM7.out.mono ?_
  rintro e w8 ⟨da, dc, rfl, hd, hf8⟩
  have HF8 := Lib.hid (HF7.out.trans hf8 (fun _ h _ => h))
  have HS8 := Lib.hid (same10_any w8 _ _ l l hd.rd (HC7.out.quiet hf8).rd)
  rw [decide_eq_true rfl] at HS8
  clear hd hf8 HM7 HS6
  go_wp2_with fail
  refine HS8.out.mono ?_
  rintro e w' ⟨rfl, m4, rfl⟩
  go_wp2_with fail
  go_ret
  exact ⟨rfl, HF8.out.thenDrewN _⟩
end
end Go.Proofs.Ytgomilodeaafdaa
namespace Go.Proofs.Ytgomilodeaafdaa
open Go.ChangeShapes Go.WideShapes Go.ChangeAt Go.RowKit Du
section
variable {w0 w : World} {F F1 F2 : Nat → Prop} {r d mr : Nat} {M : DM} {A : List Me} {l : List ByteArray}
set_option maxRecDepth 100000 in
set_option maxHeartbeats 2000000 in
theorem scans_any (h : Bo w0 w F r mr A) (c : UInt64) (count : Int) (hc : InI count) :
    Calls Try.prog 40 #[.pointer (some ⟨r, 0, none⟩), .pointer (some ⟨mr, 0, none⟩), .int .u64 (wd c), .int .i64 count] w fun e w' => e = .returned (.bool true) ∧ Fr (fun _ => False) w w' := by
  obtain ⟨F1, F2, d, M, l, h⟩ := h
  have hlo : M.old.length ≤ 2097152 := by have := h.lens.1; omega
  have hly : M.young.length ≤ 2097152 := by have := h.lens.2; omega
  have hn : M.n ≤ 1048576 := by rw [h.f.like.count]; exact h.f.len
  have hfs : ∀ W, Fr (fun _ => False) w W → ∀ c : UInt64, Calls Try.prog 68 #[.pointer (some ⟨r, 0, none⟩), .int .u64 (wd c), .int .i64 count] W (ScanPost W (scanK M c.toNat count)) := fun W hf c => floScan_any W _ F1 r d M A c count (h.quiet hf).f hc
  have hms : ∀ W, Fr (fun _ => False) w W → ∀ c : UInt64, Calls Try.prog 114 #[.pointer (some ⟨mr, 0, none⟩), .int .u64 (wd c), .int .i64 count] W fun e w' => ∃ u, e = .returned (.tuple #[.int .u64 ((scanK M c.toNat count).1 : Nat), u]) ∧ RowS W.heap.size w' u (scanK M c.toNat count).2 ∧ Fr (fun _ => False) W w' := fun W hf c => by
    obtain ⟨p, Fd, X, av, hx⟩ := (h.quiet hf).m.x
    exact rfScan_any W _ mr p F2 Fd _ l X av M hx h.f.like.inv hlo hly hn c count hc.1 hc.2
  have hcur : ∀ c : UInt64, (scanK M c.toNat count).1 < 18446744073709551616 := fun c => scan_cur h.f.like.inv (by omega) (by omega) c.toNat count
  have hlen : ∀ c : UInt64, (scanK M c.toNat count).2.length ≤ 3 * 1048576 := fun c => Nat.le_trans (scanK_len h.f.like.inv (by omega) (by omega) c.toNat count) (by omega)
  have HFS := Lib.hid hfs
  have HMS := Lib.hid hms
  have HCUR := Lib.hid hcur
  have HLEN := Lib.hid hlen
  clear h hfs hms hcur hlen hlo hly hn
  go_enter Try.func40, Try.ntmps40
  go_wp2_with fail
  go_loopw [2, 13] (fun cu i wr => ∃ (c : UInt64) (k : Nat), cu = .int .u64 (wd c) ∧ i = .int .i64 k ∧ k ≤ 40 ∧ Hid (Fr (fun _ => False) w wr)) (fun _ i _ => 40 - (intOf i).toNat)
  case atStart => exact ⟨c, 0, rfl, rfl, by omega, Fr.refl _ _⟩
  case round =>
    obtain ⟨c, k, rfl, rfl, hk, HF⟩ := hrel
    obtain ⟨wo, rfl⟩ : ∃ wo, wo = wr := ⟨_, rfl⟩
    by_cases hlt : k < 40
    · have hcr := HCUR.out c
      have hlr := HLEN.out c
      have HA := Lib.hid (HFS.out wo HF.out c)
      have HB : Hid (∀ W, Fr (fun _ => False) wo W → Calls Try.prog 114 #[.pointer (some ⟨mr, 0, none⟩), .int .u64 (wd c), .int .i64 count] W fun e w' => ∃ u, e = .returned (.tuple #[.int .u64 ((scanK M c.toNat count).1 : Nat), u]) ∧ RowS W.heap.size w' u (scanK M c.toNat count).2 ∧ Fr (fun _ => False) W w') := fun W hf => HMS.out W (HF.out.trans hf (fun _ h _ => h)) c
      obtain ⟨R, hR⟩ : ∃ R, scanK M c.toNat count = R := ⟨_, rfl⟩
      obtain ⟨c0, hc0⟩ : ∃ c0, wd c = c0 := ⟨_, rfl⟩
      rw [hR] at hcr hlr HA HB
      rw [hc0] at HA HB
      obtain ⟨R1, RL⟩ := R
      dsimp only at hcr hlr HB
      have HA2 : Hid (Calls Try.prog 68 #[.pointer (some ⟨r, 0, none⟩), .int .u64 c0, .int .i64 count] wo fun e w' => ∃ v, e = .returned (.tuple #[.int .u64 (R1 : Int), v]) ∧ RowS wo.heap.size w' v RL ∧ Below wo.heap.size wo w') := HA.out
      have HWD := Lib.hid (wdn6 R1 hcr)
      have b1 : (k : Int) < 40 := by omega
      have g1 : ((R1 : Int) == (R1 : Int)) = true := beq_self_eq_true _
      have g2 : ((R1 : Int) != (R1 : Int)) = false := by rw [bne, g1]; rfl
      rw [hc0]
      clear hR hc0 HA
      go_wp2_with fail
      refine HA2.out.mono ?_
      rintro e w1 ⟨v, rfl, hv, hb1⟩
      have hf1 := fr_bel0 hb1
      have hv2 : w1.ownsRow wo.heap.size 9 1 v RL.length (RL.map .string) := hv
      obtain ⟨va, vc, rfl⟩ := ow_sliceN hv2
      have HV : Hid (Nw wo.heap.size w1 (.slice va RL.length vc) RL) := ⟨hv2⟩
      have HF1 := Lib.hid hf1
      have HB1 := Lib.hid (HB.out w1 hf1)
      have HS01 : Hid (wo.heap.size ≤ w1.heap.size) := hf1.size
      clear hv hv2 hb1 hf1 HA2 HB
      go_wp2_with fail
      refine HB1.out.mono ?_
      rintro e w2 ⟨u, rfl, hu, hf2⟩
      have hu2 : w2.ownsRow w1.heap.size 9 1 u RL.length (RL.map .string) := hu
      obtain ⟨ua, uc, rfl⟩ := ow_sliceN hu2
      have HU : Hid (Nw w1.heap.size w2 (.slice ua RL.length uc) RL) := ⟨hu2⟩
      have HV2 := Lib.hid (HV.out.quiet hf2)
      have HF2 := Lib.hid (HF1.out.trans hf2 (fun _ h _ => h))
      have HSM := Lib.hid (same10_any w2 _ _ RL RL HV2.out.rd HU.out.rd)
      rw [decide_eq_true rfl] at HSM
      clear hu hu2 hf2 HB1
      go_wp2_with fail
      refine HSM.out.mono ?_
      rintro e w' ⟨rfl, m1, rfl⟩
      have HF3 := Lib.hid (HF2.out.thenDrewN m1)
      have HSP := Lib.hid (spoil10_any (w2.drewN m1) _ _ _ _ (HV2.out.quiet (Fr.drewN _ w2 m1)).own (by omega) HF3.out.size)
      have HOB : Hid (∀ g, (Value.slice va RL.length vc).ownBlock = some g → wo.heap.size ≤ g) := fun g hg => (own_blk HV2.out.own hg).1
      clear HSM
      go_wp2_with fail
      refine HSP.out.mono ?_
      rintro e w4 ⟨rfl, hf4⟩
      have HF4 : Hid (Fr (fun _ => False) w w4) := HF.out.trans (HF3.out.wide hf4 (fun g hg => .inr (HOB.out g hg))) (fun _ h _ => h)
      clear hf4 HSP
      by_cases hz : R1 = 0
      · subst hz
        have q0 : (((0 : Nat) : Int) == 0) = true := rfl
        go_wp2_with fail
        go_ret
        exact ⟨rfl, HF4.out⟩
      · have q0 : ((R1 : Int) == 0) = false := beq_eq_false_iff_ne.2 (by omega)
        go_wp2_with fail
        go_roundw
        case rel => exact ⟨UInt64.ofNat R1, k + 1, by rw [HWD.out], by go_num, by omega, HF4⟩
        case measure => simp [intOf]; omega
    · obtain rfl : k = 40 := by omega
      go_wp2_with fail
      go_ret
      exact ⟨rfl, HF.out⟩
end
end Go.Proofs.Ytgomilodeaafdaa
namespace Go.Proofs.Ytgomilodeaafdaa
open Go.ChangeShapes Go.WideShapes Go.ChangeAt Go.RowKit Du
section
variable {w0 w w' w1 w2 w3 w4 : World} {F G F1 F2 : Nat → Prop} {r d mr : Nat} {M : DM} {A : List Me} {N : NM} {L : Pl} {l : List ByteArray}
theorem BoTo.pre (hl : ∀ k, F k → w0.heap.size ≤ k ∧ k < w.heap.size) (hb : w0.heap.size ≤ w.heap.size) (hq : Fr (fun _ => False) w w1) (h : BoTo w0 w1 F r mr w') : BoTo w0 w F r mr w' := by
  obtain ⟨A', h2, h3⟩ := h
  have hs := hq.size
  have hs2 := h3.size
  exact ⟨A', h2.wide (fun k hk => hk.imp id (fun q => ⟨by omega, q.2⟩)) (Grew.lts hl hb (by omega)), (hq.mono (fun _ h _ => h.elim)).trans h3 (fun _ h _ => h)⟩
theorem Ha.fin (h : Ha w0 w4 G F1 F2 r d mr M A N L l) (hN : N = nmM M) (hL : L = L0 A) (hG : ∀ k, G k → Grew F w w4 k) (hl : ∀ k, F k → w0.heap.size ≤ k ∧ k < w.heap.size) (hb : w0.heap.size ≤ w.heap.size) (hf : Fr F w w4) : BoTo w0 w F r mr w4 := by
  subst hN hL
  exact ⟨A, ⟨F1, F2, d, M, l, h.wide hG (Grew.lts hl hb hf.size)⟩, hf⟩
theorem tw_key {key : ByteArray} {M : DM} {A : List Me} (h : LikeG vl M A) : hasK (tb M) key = (fdG key A).isSome := h.has key
theorem nm_count {M : DM} {A : List Me} (h : LikeG vl M A) : M.n = (L0 A).length := by rw [h.count, L0_len]
/-- what the second call leaves -/
def Tw (w0 w : World) (F : Nat → Prop) (r mr : Nat) (fn : Nat) (args : Array Value) (v : Value) (e : Ending) (w2 : World) : Prop :=
  e = .returned v ∧ Fr F w w2 ∧ ∀ w3, Fr (fun _ => False) w2 w3 → Calls Try.prog fn args w3 fun e w4 => e = .returned v ∧ BoTo w0 w F r mr w4
theorem tw_done (hl : ∀ k, F k → w0.heap.size ≤ k ∧ k < w.heap.size) (hb : w0.heap.size ≤ w.heap.size) {M' : DM} {A' : List Me} {F1' F2' G' : Nat → Prop} (h2 : Fr F w w2) (hq : Fr (fun _ => False) w2 w3) (h : Ha w0 w4 (Grew (Grew F w w2) w3 w4) F1' F2' r d mr M' A' N L l) (h4 : Fr (Grew F w w2) w3 w4) (hN : N = nmM M') (hL : L = L0 A') : BoTo w0 w F r mr w4 := by
  have hs := h2.size
  have hs2 := hq.size
  have hs3 := h4.size
  refine h.fin hN hL (fun k hk => ?_) hl hb ?_
  · rcases hk with (hk | hk) | hk
    · exact .inl hk
    · exact .inr ⟨hk.1, by omega⟩
    · exact .inr ⟨by omega, hk.2⟩
  · exact (h2.wide hq (fun _ h => h.elim)).wide h4 (fun k hk => hk.imp id (fun q => q.1))
theorem bo_add (h : Bo w0 w F r mr A) (key : ByteArray) (hk : key.size ≤ maxLen) : ∃ (b : Bool) (c : Int), Calls Try.prog 42 #[.pointer (some ⟨mr, 0, none⟩), .string key] w
    (Tw w0 w F r mr 41 #[.pointer (some ⟨r, 0, none⟩), .string key] (.tuple #[.bool b, .int .i64 c])) := by
  have hB := h
  obtain ⟨F1, F2, d, M, l, h⟩ := h
  have hl := h.lt
  have hb := h.bel.size
  by_cases hlong : 1048576 < key.size
  · refine ⟨false, 2, (rfAdd_long w mr key hk hlong).mono ?_⟩
    rintro e w2 ⟨rfl, rfl⟩
    refine ⟨rfl, Fr.refl _ _, fun w3 hq => (floAdd_long w3 r key hk hlong).mono ?_⟩
    rintro e w4 ⟨rfl, rfl⟩
    exact ⟨rfl, hB.stay hq⟩
  · have hk2 : key.size ≤ 1048576 := by omega
    have hlike := h.f.like
    cases ha : fdG key A with
    | some i =>
      refine ⟨false, 0, (rfAdd_any w _ mr F2 _ _ l key h.m hb hk2).mono ?_⟩
      rintro e w2 ⟨N', L', l', hg, hc⟩
      rw [fdG_L0, ha] at hc
      rcases hc with ⟨-, rfl, rfl, rfl⟩ | ⟨h9, -⟩ | ⟨h9, -⟩
      · obtain ⟨h2, f2⟩ := h.rturn hg
        refine ⟨rfl, f2, fun w3 hq => (floAdd_there w3 _ F1 r d M A key i (h2.quiet hq).f (h2.quiet hq).bel.size hk2 ha).mono ?_⟩
        rintro e w4 ⟨rfl, hg4⟩
        obtain ⟨h4, f4⟩ := (h2.quiet hq).fturn hg4 h.lens.step
        exact ⟨rfl, tw_done (G' := F) hl hb f2 hq h4 f4 (nm_step M).symm rfl⟩
      · cases h9
      · cases h9
    | none =>
      by_cases hfull : 1048576 ≤ A.length
      · refine ⟨false, 4, (rfAdd_any w _ mr F2 _ _ l key h.m hb hk2).mono ?_⟩
        rintro e w2 ⟨N', L', l', hg, hc⟩
        rw [fdG_L0, ha, L0_len] at hc
        rcases hc with ⟨h9, -⟩ | ⟨-, -, rfl, rfl, rfl⟩ | ⟨-, h9, -⟩
        · cases h9
        · obtain ⟨h2, f2⟩ := h.rturn hg
          refine ⟨rfl, f2, fun w3 hq => (floAdd_full w3 _ F1 r d M A key (h2.quiet hq).f (h2.quiet hq).bel.size hk2 ha hfull).mono ?_⟩
          rintro e w4 ⟨rfl, hg4⟩
          obtain ⟨h4, f4⟩ := (h2.quiet hq).fturn hg4 h.lens.step
          exact ⟨rfl, tw_done (G' := F) hl hb f2 hq h4 f4 (nm_step M).symm rfl⟩
        · omega
      · refine ⟨true, 0, (rfAdd_any w _ mr F2 _ _ l key h.m hb hk2).mono ?_⟩
        rintro e w2 ⟨N', L', l', hg, hc⟩
        rw [fdG_L0, ha, L0_len] at hc
        rcases hc with ⟨h9, -⟩ | ⟨-, h9, -⟩ | ⟨-, -, rfl, rfl, rfl⟩
        · cases h9
        · omega
        · obtain ⟨h2, f2⟩ := h.rturn hg
          refine ⟨rfl, f2, fun w3 hq => (floAdd_new w3 _ F1 r d M A key (h2.quiet hq).f (h2.quiet hq).bel.size hk2 ha (by omega)).mono ?_⟩
          rintro e w4 ⟨rfl, t, b, hg4⟩
          have hls : Lens (setM (stepM M) key (vl ()) t b) 1048576 := h.lens.step.set (inv_step M hlike.inv) (by rw [(step_lens M).2.2.2, hlike.count]; exact h.f.len) key _ t b
          obtain ⟨h4, f4⟩ := (h2.quiet hq).fturn hg4 hls
          refine ⟨rfl, tw_done (G' := F) hl hb f2 hq h4 f4 ?_ (L0_new ha)⟩
          rw [nm_set (inv_step M hlike.inv), nm_step, has_step hlike.inv, tw_key hlike, ha, (step_lens M).2.2.2, hlike.count]
          rfl
theorem bo_del (h : Bo w0 w F r mr A) (key : ByteArray) (hk : key.size ≤ maxLen) : ∃ (b : Bool), Calls Try.prog 108 #[.pointer (some ⟨mr, 0, none⟩), .string key] w
    (Tw w0 w F r mr 64 #[.pointer (some ⟨r, 0, none⟩), .string key] (.bool b)) := by
  obtain ⟨F1, F2, d, M, l, h⟩ := h
  have hl := h.lt
  have hb := h.bel.size
  have hlike := h.f.like
  refine ⟨(fdG key A).isSome, (rfDel_any w _ mr F2 _ _ l key h.m hb hk).mono ?_⟩
  rintro e w2 ⟨rfl, N', l', hg, hc⟩
  rw [fdG_L0] at hc
  obtain ⟨h2, f2⟩ := h.rturn hg
  refine ⟨by rw [fdG_L0], f2, fun w3 hq => ?_⟩
  cases ha : fdG key A with
  | none =>
    rw [ha] at hc
    rcases hc with ⟨-, rfl⟩ | ⟨h9, -⟩
    · refine (floDel_none w3 _ F1 r d M A key (h2.quiet hq).f (h2.quiet hq).bel.size hk ha).mono ?_
      rintro e w4 ⟨rfl, hg4⟩
      obtain ⟨h4, f4⟩ := (h2.quiet hq).fturn hg4 h.lens.step
      exact ⟨rfl, tw_done (G' := F) hl hb f2 hq h4 f4 (nm_step M).symm (by rw [L0_del]; unfold delG; rw [ha])⟩
    · cases h9
  | some i =>
    rw [ha] at hc
    rcases hc with ⟨h9, -⟩ | ⟨-, rfl⟩
    · cases h9
    · obtain ⟨⟨⟩, hw⟩ := fdG_some ha
      refine (floDel_there w3 _ F1 r d M A key i (h2.quiet hq).f (h2.quiet hq).bel.size hk ha hw).mono ?_
      rintro e w4 ⟨rfl, t, hg4⟩
      have hls : Lens (delM (stepM M) key t) 1048576 := h.lens.step.del (inv_step M hlike.inv) (by rw [(step_lens M).2.2.2, hlike.count]; exact h.f.len) key t
      obtain ⟨h4, f4⟩ := (h2.quiet hq).fturn hg4 hls
      refine ⟨rfl, tw_done (G' := F) hl hb f2 hq h4 f4 ?_ (L0_del key A)⟩
      rw [nm_del (inv_step M hlike.inv), nm_step, has_step hlike.inv, tw_key hlike, ha, (step_lens M).2.2.2, hlike.count, L0_len]
      rfl
theorem bo_has (h : Bo w0 w F r mr A) (key : ByteArray) (hk : key.size ≤ maxLen) : ∃ (b : Bool), Calls Try.prog 109 #[.pointer (some ⟨mr, 0, none⟩), .string key] w
    (Tw w0 w F r mr 52 #[.pointer (some ⟨r, 0, none⟩), .string key] (.bool b)) := by
  obtain ⟨F1, F2, d, M, l, h⟩ := h
  have hl := h.lt
  have hb := h.bel.size
  refine ⟨(fdG key A).isSome, (rfHas_any w _ mr F2 _ _ l key h.m hb).mono ?_⟩
  rintro e w2 ⟨rfl, hg⟩
  obtain ⟨h2, f2⟩ := h.rturn hg
  refine ⟨by rw [fdG_L0], f2, fun w3 hq => ?_⟩
  refine (floHas_any w3 _ F1 r d M A key (h2.quiet hq).f (h2.quiet hq).bel.size hk).mono ?_
  rintro e w4 ⟨rfl, hg4⟩
  obtain ⟨h4, f4⟩ := (h2.quiet hq).fturn hg4 h.lens.step
  exact ⟨rfl, tw_done (G' := F) hl hb f2 hq h4 f4 (nm_step M).symm rfl⟩
end
end Go.Proofs.Ytgomilodeaafdaa
