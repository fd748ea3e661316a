/- The reference's Drop. No condition. -/
import Derived.Test.YtpcjogmikgfgdaaRefA
import Derived.Outline
namespace Go.Proofs.Ytpcjogmikgfgdaa
open Go.RowKit Go.Sort
def RDropPost (w : World) (B p cap : Nat) (vr : Value) (A : List Cd) (k : ByteArray) (e : Ending) (w' : World) : Prop :=
  ∃ vr' A' b, e = .returned (.bool b) ∧ RefDrop A k A' b ∧ RefAt w' B p cap vr' A' ∧ (∀ g, vr'.ownBlock = some g → vr.ownBlock = some g ∨ w.heap.size ≤ g) ∧ Fr (fun i => i = p ∨ vr.ownBlock = some i) w w'
theorem owns_base {w : World} {B B' : Nat} {e : TypeId} {size : Nat} {v : Value} {n : Nat} {xs : List Value} (h : w.ownsRow B' e size v n xs) (hb : B ≤ B') : w.ownsRow B e size v n xs := by
  obtain ⟨z1, z2 | ⟨g, cap, cur, ze, zb, zr⟩⟩ := h
  · exact ⟨z1, .inl z2⟩
  · exact ⟨z1, .inr ⟨g, cap, cur, ze, Nat.le_trans hb zb, zr⟩⟩
theorem clC_drop (l : List Cd) (k : Nat) : (clC l).drop (k * 2) = clC (l.drop k) := by
  induction l generalizing k with
  | nil => simp [clC]
  | cons a l ih =>
    cases k with
    | zero => simp
    | succ k =>
      have e : (k + 1) * 2 = k * 2 + 2 := by omega
      rw [e, List.drop_succ_cons, clC_cons, ← ih k]
      rfl
theorem clC_app (l m : List Cd) : clC (l ++ m) = clC l ++ clC m := List.flatMap_append
/-- what stands behind a place -/
theorem rd_rest {w : World} {B g n cap : Nat} {l : List Cd} (h : w.ownsRow B 73 2 (.slice (some ⟨g, 0, none⟩) n cap) n (clC l)) (k : Nat) (hk : k ≤ n) (a : Addr) (ha : k < n → a = ⟨g, k * 2, none⟩) :
    RdC w 2 (.slice (some a) (n - k) (cap - k)) (n - k) (clC (l.drop k)) := by
  have hln : l.length = n := by have := h.1; rw [clC_len] at this; omega
  obtain ⟨-, ⟨h9, _⟩ | ⟨g9, cap9, cur, he9, _, hb9, k91, k92, k93, k94⟩⟩ := h
  · cases h9
  cases he9
  refine ⟨by rw [clC_len, List.length_drop, hln], _, _, rfl, by omega, by unfold maxLen at *; omega, (fun e => by cases e), fun ad had j u hu => ?_⟩
  cases had
  have hj : j < (n - k) * 2 := by
    have := (List.getElem?_eq_some_iff.1 hu).1
    rw [clC_len, List.length_drop, hln] at this
    exact this
  rw [ha (by omega)]
  have hadd : (⟨g, k * 2, none⟩ : Addr).add j = ⟨g, k * 2 + j, none⟩ := by simp [Addr.add]
  rw [hadd, cell_of_blk hb9, ← Array.getElem?_toList, ← List.getElem?_take_of_lt (show k * 2 + j < n * 2 by omega), k94]
  rw [← clC_drop, List.getElem?_drop] at hu
  exact hu
theorem drop_fin {w w2 w5 : World} {B p cap g rc i c5 n : Nat} {a5 : Option Addr} {A : List Cd} {k : ByteArray} (h2 : RefAt w2 B p cap (.slice (some ⟨g, 0, none⟩) A.length rc) A) (hf2 : Fr (fun _ => False) w w2) (hf5 : Fr (fun _ => False) w2 w5)
    (hb5 : RefAt w5 B p cap (.slice (some ⟨g, 0, none⟩) A.length rc) A) (ho : w5.ownsRow w2.heap.size 73 2 (.slice a5 n c5) n (clC (A.take i) ++ clC (A.drop (i + 1)))) (hn : n = i + (A.length - (i + 1))) (hi : i < A.length) (hk : A[i].key = k) (hll : A.length ≤ 17) :
    RDropPost w B p cap (.slice (some ⟨g, 0, none⟩) A.length rc) A k (.returned (.bool true)) (w5.setCell ⟨p, 1, none⟩ (.slice a5 n c5)) := by
  subst hn
  have hlen : i + (A.length - (i + 1)) = (A.take i ++ A.drop (i + 1)).length := by rw [List.length_append, List.length_take, List.length_drop]; omega
  rw [← clC_app, hlen] at ho
  rw [hlen]
  have hBw : B ≤ w2.heap.size := Nat.le_trans h2.bp (Nat.le_of_lt h2.lt)
  refine ⟨_, A.take i ++ A.drop (i + 1), true, rfl, .inl ⟨i, hi, hk, rfl, rfl⟩, RefAt.stored hb5.blk (owns_base ho hBw) hb5.bp (by rw [← hlen]; omega) hb5.cap1 hb5.cap2, fun j hj => .inr (Nat.le_trans hf2.size (own_blk ho hj).1), ?_⟩
  exact ((hf2.mono (fun _ h _ => h.elim)).wide hf5 (fun _ h => h.elim)).wide (Fr.setCell w5 ⟨p, 1, none⟩ _) (fun i hi => .inl (.inl hi))
set_option maxRecDepth 100000 in
set_option maxHeartbeats 4000000 in
theorem dropR_any (w : World) (B p cap : Nat) (vr : Value) (A : List Cd) (k : ByteArray) (h : RefAt w B p cap vr A) (hB : B ≤ w.heap.size) :
    Calls Try.prog 84 #[.pointer (some ⟨p, 0, none⟩), .string k] w (RDropPost w B p cap vr A k) := by
  obtain ⟨i0, hi, hz0, hz1, hz2⟩ := info_parts infoC
  have HI := Lib.hid hi
  have HZ0 := Lib.hid hz0
  have HZ1 := Lib.hid hz1
  have HZ2 := Lib.hid hz2
  have H := Lib.hid h
  have hpw := h.lt
  have hll := h.len
  clear hi hz0 hz1 hz2 h
  go_enter Try.func84, Try.ntmps84
  go_wp2_with fail
  refine (at_any w B p cap vr A k H.out).mono ?_
  intro e w2 hq
  have HF2 := Lib.hid hq.2
  have H2 := Lib.hid (H.out.quiet hq.2)
  have q1 : w2.cell? ⟨p, 1, none⟩ = some vr := H2.out.cell 1
  have qf1 : w2.frozen? ⟨p, 1, none⟩ = false := H2.out.free 1
  have hpw2 : p < w2.heap.size := H2.out.lt
  rcases hq.1 with ⟨rfl, hno⟩ | ⟨i, hi, rfl, hk⟩
  · have HNO := Lib.hid hno
    clear hq hno
    go_wp2_with fail
    go_ret
    exact ⟨vr, A, false, rfl, .inr ⟨HNO.out, rfl, rfl⟩, H2.out, fun g hg => .inl hg, HF2.out.mono (fun _ h _ => h.elim)⟩
  · have HK := Lib.hid hk
    have hrow := H2.out.row
    obtain ⟨-, ⟨h9, h99⟩ | ⟨g, rc, cur, rfl, hbase, hb9, k91, k92, k93, k94⟩⟩ := hrow
    · omega
    clear hq hk hb9 k93 k94 hbase
    have hi0 : (0 : Int) ≤ (i : Int) := by omega
    have hi1 : (i : Int) ≤ (A.length : Int) := by omega
    have hi2 : (i : Int) + 1 ≤ (A.length : Int) := by omega
    have hic : (i : Int) ≤ (rc : Int) := by omega
    have hic2 : (i : Int) + 1 ≤ (rc : Int) := by omega
    have hcm : (rc : Int) ≤ 9223372036854775807 := by unfold maxLen at k92; omega
    have htk := rd_take (RdC.of_owns H2.out.row) i (by omega)
    rw [clC_take] at htk
    have HTK := Lib.hid htk
    have hil : (A.take i).length = i := by rw [List.length_take]; omega
    have HIL := Lib.hid hil
    clear htk hil
    have gi : decide ((i : Int) < 0) = false := by rw [decide_eq_false_iff_not]; omega
    have hrr := fun (a : Addr) (ha : i + 1 < A.length → a = ⟨g, (i + 1) * 2, none⟩) (W : World) (hW : Fr (fun _ => False) w2 W) => (rd_rest H2.out.row (i + 1) (by omega) a ha).fr hW (fun _ _ h => h)
    have HRR := Lib.hid hrr
    clear hrr
    go_upto_region 8 with (at_builtin; refine wpl_append rfl (.tmp 14) (.tmp 20) 67 rfl w2.heap.size 73 i0 (.agg #[.string ⟨#[]⟩, .int .u64 0]) 2 24 Try.underlying67 HI.out HZ0.out HZ1.out HZ2.out rfl (by decide) (.slice none 0 0) 0 [] rfl (World.ownsRow_nil _ _ _ _) _ i (clC (A.take i)) rfl HTK.out (one_C _) (by unfold maxLen; omega) (by omega) (Nat.le_refl _) ?_; intro v3 w3 hown hgrow; have HF3 : Hid (Fr (fun _ => False) w2 w3) := (Fr.of_grownBy hgrow).mono (fun i hi => (by cases hi)); have q1 : w3.cell? ⟨p, 1, none⟩ = some (.slice (some ⟨g, 0, none⟩) A.length rc) := (H2.out.quiet HF3.out).cell 1; rw [Nat.zero_add] at hown; obtain ⟨a3, c3, rfl⟩ := owns_sliceN hown; have HO3 := Lib.hid hown; clear hown hgrow)
    by_cases hce : rc = i + 1
    · subst hce
      have hln : A.length = i + 1 := by omega
      have hd0 : A.drop (i + 1) = [] := List.drop_eq_nil_of_le (by omega)
      have hs := HRR.out ⟨g, 0, none⟩ (fun h => by omega) w3 HF3.out
      rw [hln, Nat.sub_self, hd0] at hs
      have HS := Lib.hid hs
      have HD0 := Lib.hid hd0
      have HLN := Lib.hid hln
      clear hs hd0 hln
      go_wp2_with (at_builtin; (refine wpl_append rfl (.tmp 22) (.tmp 29) 67 rfl w2.heap.size 73 i0 (.agg #[.string ⟨#[]⟩, .int .u64 0]) 2 24 Try.underlying67 HI.out HZ0.out HZ1.out HZ2.out rfl (by decide) (.slice a3 i c3) i (clC (A.take i)) rfl HO3.out _ 0 (clC []) rfl HS.out (one_C _) (by unfold maxLen; omega) (by omega) HF3.out.size ?_; intro v5 w5 hown hgrow; have HF5 : Hid (Fr (fun _ => False) w2 w5) := HF3.out.wide (Fr.of_grownBy hgrow) (fun j hj => .inr (own_blk HO3.out hj).1); have hb5 := H2.out.quiet HF5.out; have q1 : w5.cell? ⟨p, 1, none⟩ = some (.slice (some ⟨g, 0, none⟩) A.length (i + 1)) := hb5.cell 1; have qf1 : w5.frozen? ⟨p, 1, none⟩ = false := hb5.free 1; obtain ⟨a5, c5, rfl⟩ := owns_sliceN hown; have HO5 := Lib.hid hown; have HB5 := Lib.hid hb5; clear hown hgrow hb5))
      go_ret
      exact drop_fin H2.out HF2.out HF5.out HB5.out (by rw [HD0.out]; exact HO5.out) (by have := HLN.out; omega) hi HK.out hll
    · have HS := Lib.hid (HRR.out ⟨g, (i + 1) * 2, none⟩ (fun _ => rfl) w3 HF3.out)
      go_wp2_with (at_builtin; (refine wpl_append rfl (.tmp 22) (.tmp 29) 67 rfl w2.heap.size 73 i0 (.agg #[.string ⟨#[]⟩, .int .u64 0]) 2 24 Try.underlying67 HI.out HZ0.out HZ1.out HZ2.out rfl (by decide) (.slice a3 i c3) i (clC (A.take i)) rfl HO3.out _ (A.length - (i + 1)) (clC (A.drop (i + 1))) rfl HS.out (one_C _) (by unfold maxLen; omega) (by omega) HF3.out.size ?_; intro v5 w5 hown hgrow; have HF5 : Hid (Fr (fun _ => False) w2 w5) := HF3.out.wide (Fr.of_grownBy hgrow) (fun j hj => .inr (own_blk HO3.out hj).1); have hb5 := H2.out.quiet HF5.out; have q1 : w5.cell? ⟨p, 1, none⟩ = some (.slice (some ⟨g, 0, none⟩) A.length rc) := hb5.cell 1; have qf1 : w5.frozen? ⟨p, 1, none⟩ = false := hb5.free 1; obtain ⟨a5, c5, rfl⟩ := owns_sliceN hown; have HO5 := Lib.hid hown; have HB5 := Lib.hid hb5; clear hown hgrow hb5))
      go_ret
      exact drop_fin H2.out HF2.out HF5.out HB5.out HO5.out rfl hi HK.out hll
end Go.Proofs.Ytpcjogmikgfgdaa
