/- The walks of pantrylaw03's few and text, over at most 40 signs with sets of at most 1048576 bytes. -/
import Derived.Test.YthiamkfghnopgaaDoorGlobV
import Derived.Test.YthiamkfghnopgaaDoorGlobQ
import Derived.Lib.AppendStr
namespace Go.Proofs.YthiamkfghnopgaaDoor
open Go.RowKit
/-- a sign as it lies in a list -/
structure SgB where
  k : Int
  a : UInt8
  b : UInt8
  v : Value
  o : Bytes
def sgc (x : SgB) : List Value := [.int .i64 x.k, .int .u8 x.a.toNat, .int .u8 x.b.toNat, x.v]
theorem sgc_len (x : SgB) : (sgc x).length = 4 := rfl
def SgOk (w : World) (x : SgB) : Prop := RdC w 1 x.v x.o.length (x.o.map u8) ∧ x.o.length ≤ 1048576
theorem SgOk.below {w w' : World} {x : SgB} (h : SgOk w x) (hb : Below w.heap.size w w') : SgOk w' x := ⟨h.1.below hb, h.2⟩
def wr1 (x : SgB) : Bytes := writ x.k x.a x.b x.o
def sg1 (x : SgB) : Sg := sgOf x.k x.a x.b x.o
def txt (l : List SgB) : Bytes := l.flatMap wr1
theorem txt_snoc (l : List SgB) (k : Nat) (h : k < l.length) : txt (l.take (k + 1)) = txt (l.take k) ++ wr1 l[k] := by
  unfold txt
  rw [List.take_succ_eq_append_getElem h, List.flatMap_append]; simp
theorem signs_txt (l : List SgB) (q : Bytes) : signs (txt l ++ q) = l.map sg1 ++ signs q := by
  induction l with
  | nil => rfl
  | cons x l ih =>
    show signs ((wr1 x ++ txt l) ++ q) = sg1 x :: (l.map sg1 ++ signs q)
    rw [List.append_assoc]
    show signs (writ x.k x.a x.b x.o ++ (txt l ++ q)) = _
    rw [signs_writ, ih]; rfl
theorem flat4_at (l : List SgB) (k j : Nat) (hk : k < l.length) (hj : j < 4) : (l.flatMap sgc)[k * 4 + j]? = (sgc l[k])[j]? := by
  induction l generalizing k with
  | nil => simp at hk
  | cons x l ih =>
    rw [List.flatMap_cons]
    cases k with
    | zero =>
      rw [Nat.zero_mul, Nat.zero_add, List.getElem?_append_left (by rw [sgc_len]; exact hj)]
      rfl
    | succ k =>
      have := ih k (by simpa using hk)
      rw [List.getElem?_append_right (by rw [sgc_len, Nat.succ_mul]; omega), sgc_len, show (k + 1) * 4 + j - 4 = k * 4 + j by rw [Nat.succ_mul]; omega]
      exact this
theorem sg_at {w : World} {a : Option Addr} {n cap : Nat} {l : List SgB} (h : RdC w 4 (.slice a n cap) n (l.flatMap sgc)) (k : Nat) (hk : k < l.length) :
    ∃ g off, a = some ⟨g, off, none⟩ ∧ w.cell? ⟨g, off + k * 4, none⟩ = some (.int .i64 l[k].k) ∧ w.cell? ⟨g, off + k * 4 + 1, none⟩ = some (.int .u8 l[k].a.toNat) ∧ w.cell? ⟨g, off + k * 4 + 2, none⟩ = some (.int .u8 l[k].b.toNat) ∧ w.cell? ⟨g, off + k * 4 + 3, none⟩ = some l[k].v := by
  have hf := fun j hj => flat4_at l k j hk hj
  have hpos : 0 < (l.flatMap sgc).length := by
    have := hf 0 (by decide)
    have h2 : (sgc l[k])[0]? = some (.int .i64 l[k].k) := rfl
    rw [h2] at this
    have := (List.getElem?_eq_some_iff.1 this).1
    omega
  obtain ⟨g, off, rfl, hc⟩ := h.at hpos
  refine ⟨g, off, rfl, ?_, ?_, ?_, ?_⟩
  · exact hc (k * 4 + 0) _ (by rw [hf 0 (by decide)]; rfl)
  · rw [Nat.add_assoc]; exact hc (k * 4 + 1) _ (by rw [hf 1 (by decide)]; rfl)
  · rw [Nat.add_assoc]; exact hc (k * 4 + 2) _ (by rw [hf 2 (by decide)]; rfl)
  · rw [Nat.add_assoc]; exact hc (k * 4 + 3) _ (by rw [hf 3 (by decide)]; rfl)
theorem strCells_mk (l : Bytes) : Go.Lib.strCells (mkS l) = l.map u8 := by
  unfold Go.Lib.strCells
  simp [mkS, u8]
theorem grown_of_below {w w' : World} (hb : Below w.heap.size w w') : w.grownBy w' none :=
  ⟨hb.os, hb.tape, hb.output, hb.size, fun k hk _ => hb.block k hk⟩
set_option maxRecDepth 100000 in
set_option maxHeartbeats 4000000 in
theorem text_any (l : List SgB) (v : Value) (w : World) (hr : RdC w 4 v l.length (l.flatMap sgc)) (ho : ∀ x ∈ l, SgOk w x) (hl : l.length ≤ 40) :
    Calls Tryd.prog 11 #[v] w fun e w' => e = .returned (.string (mkS (txt l))) ∧ Below w.heap.size w w' := by
  obtain ⟨i0, hi, hz0, hz1, hz2⟩ := info_parts infoByte
  obtain ⟨ad, cap, hv⟩ : ∃ ad cap, v = .slice ad l.length cap := by
    obtain ⟨_, ad, cap, h, _⟩ := hr
    exact ⟨ad, cap, h⟩
  subst hv
  have HR := Lib.hid hr
  have HO := Lib.hid ho
  clear hr ho
  go_enter Tryd.func11, Tryd.ntmps11
  go_wp2
  go_loopg [3, 4] l.length (fun gh v i wr => ∃ k : Nat, Hid (k + gh = l.length) ∧ i = .int .i64 k ∧ (txt (l.take k)).length ≤ k * 2097170 ∧ Hid (wr.ownsRow w.heap.size 5 1 v (txt (l.take k)).length ((txt (l.take k)).map u8)) ∧ Hid (Below w.heap.size w wr))
  case atStart =>
    refine ⟨0, Nat.zero_add _, rfl, by simp [txt], ?_, (Below.refl _ _).alloc (Nat.le_refl _) _⟩
    exact World.ownsRow_lit (e := 5) (size := 1) w #[] 0 (Nat.le_refl _) (by decide) rfl
  case round =>
    obtain ⟨k, HG, rfl, hT, HT, HB⟩ := hrel
    have hk : k ≤ l.length := by have := HG.out; omega
    by_cases hlt : k < l.length
    · have hrw := HR.out.below HB.out
      obtain ⟨g, off, rfl, c0, c1, c2, c3⟩ := sg_at hrw k hlt
      have hok := (HO.out l[k] (List.getElem_mem hlt)).below HB.out
      have hts := txt_snoc l k hlt
      obtain ⟨x, hx⟩ : ∃ x, l[k] = x := ⟨_, rfl⟩
      rw [hx] at c0 c1 c2 c3 hok hts
      have hwl : (wr1 x).length ≤ 2097160 := by have h1 := writ_len x.k x.a x.b x.o; have h2 := hok.2; unfold wr1; omega
      have hws : (mkS (wr1 x)).size = (wr1 x).length := mk_size _
      have HW := Lib.hid (written_any x.k x.a x.b x.v x.o wr hok.1 (by have := hok.2; omega))
      have HTS := Lib.hid hts
      have HWL := Lib.hid hwl
      clear hrw hok hts hx hwl hws
      go_wp2_with fail
      refine HW.out.mono ?_
      rintro e w2 ⟨rfl, hb2⟩
      have hT2 := World.ownsRow.kept HT.out (row := none) (grown_of_below hb2) (by
        cases hq : Value.ownBlock u3 with
        | none => exact .inl rfl
        | some g => exact .inr (fun e => by cases e))
      have HT2 := Lib.hid hT2
      have HB2 := Lib.hid (HB.out.trans (hb2.mono HB.out.size))
      clear hT2 hb2
      go_wp2_with (at_builtin; refine Go.Lib.wpList_append_own_string _ rfl (.tmp 12) (.tmp 17) 28 9 rfl w.heap.size 5 i0 Tryd.underlying28 Tryd.underlying9 hi hz0 hz1 hz2 _ (txt (l.take k)).length _ rfl HT2.out (mkS (wr1 x)) rfl (by rw [mk_size]; have := HWL.out; unfold maxLen; omega) (by rw [mk_size]; have := HWL.out; omega) HB2.out.size ?_; intro v' w3 hown hgrow _; have hbel1 : Below w.heap.size w w3 := HB2.out.grown hgrow HB2.out.size (fun k e => (HT2.out.lt k e).1); rw [strCells_mk, mk_size] at hown; have HO1 := Lib.hid hown; have HB1 := Lib.hid hbel1; clear hown hgrow hbel1)
      go_roundg (l.length - (k + 1))
      case measure => have := HG.out; omega
      case rel =>
        refine ⟨k + 1, by show _ = _; omega, by go_num, ?_, ?_, HB1⟩
        · rw [HTS.out, List.length_append]; have := HWL.out; omega
        · show World.ownsRow _ _ _ _ _ _ _
          rw [HTS.out, List.length_append, List.map_append]
          exact HO1.out
    · have hke : k = l.length := by omega
      have hown := HT.out
      have htk : l.take k = l := by rw [hke]; exact List.take_of_length_le (Nat.le_refl _)
      rw [htk] at hown
      have HOO := Lib.hid hown
      have g1 : decide (k < l.length) = false := by simpa using hlt
      clear hown hke htk
      go_wp2_with (refine wpl_toString rfl (.tmp 19) 28 9 5 rfl _ (txt l) rfl Tryd.underlying28 Tryd.underlying9 Tryd.underlying5 (RdC.of_owns HOO.out) ?_)
      go_ret
      exact ⟨rfl, HB.out⟩
end Go.Proofs.YthiamkfghnopgaaDoor
