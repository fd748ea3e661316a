/- SessionKnown: what its walk keeps, and its closed facts. No condition. -/
import Derived.Test.YtpcjogmikgfgdaaSees
import Derived.Test.YtpcjogmikgfgdaaSessW
namespace Go.Proofs.Ytpcjogmikgfgdaa
open Go.RowKit
structure Kn (w : World) (F : Nat → Prop) (p m : Nat) (vq : Value) (S : SS) (V : World) : Prop where
  f : SessF V w.heap.size F p m vq S
  bel : Below w.heap.size w V
section
variable {w V V' : World} {F : Nat → Prop} {p m : Nat} {vq : Value} {S S' : SS}
theorem Kn.turn (h : Kn w F p m vq S V) (hs : SessAt V' w.heap.size p m vq S') (hf : Fr (fun i => i = p ∨ i = m) V V') : Kn w F p m vq S' V' :=
  ⟨h.f.turn hs hf, h.bel.trans ((fr_two hf h.f.fp h.f.fm).below h.bel.size (fun i hi => (h.f.lt i hi).1))⟩
theorem Kn.quiet (h : Kn w F p m vq S V) (hf : Fr (fun _ => False) V V') : Kn w F p m vq S V' :=
  ⟨h.f.quiet hf, h.bel.trans (hf.below h.bel.size (fun _ h => h.elim))⟩
theorem Kn.later (h : Kn w F p m vq S V) (hb : Below V.heap.size V V') : Kn w F p m vq S V' :=
  h.quiet ⟨hb.os, hb.tape, hb.output, hb.size, fun k hk _ => hb.block k hk⟩
theorem Kn.queued {e : Ending} (h : Kn w F p m vq S V) (hq : QPost V w.heap.size p m vq S' e V') : ∃ vq' F', e = .returned (.int .i64 0) ∧ Hid (Kn w F' p m vq' S' V') := by
  obtain ⟨vq', he, hs, hf⟩ := h.f.queued h.bel.size hq
  exact ⟨vq', _, he, hs, h.bel.trans (hf.below h.bel.size (fun i hi => (h.f.lt i hi).1))⟩
theorem Kn.ended (h : Kn w F p m vq S V) (hs : SessAt V' w.heap.size p m (.slice none 0 0) ⟨false, false, false, [], []⟩) (hf : Fr (fun i => i = p ∨ i = m) V V') : Kn w F p m (.slice none 0 0) ⟨false, false, false, [], []⟩ V' :=
  ⟨h.f.ended hs hf rfl, h.bel.trans ((fr_two hf h.f.fp h.f.fm).below h.bel.size (fun i hi => (h.f.lt i hi).1))⟩
end
def lsQ : List (List ByteArray) := [[⟨#[97]⟩, ⟨#[98]⟩], [⟨#[99]⟩]]
theorem lsQ_eq : decide (lsQ = lsQ) = true := decide_eq_true rfl
theorem jk_eq : decide (([⟨#[106]⟩, ⟨#[107]⟩] : List ByteArray) = [⟨#[106]⟩, ⟨#[107]⟩]) = true := decide_eq_true rfl
theorem sort_kj : sortS [⟨#[107]⟩, ⟨#[106]⟩] = [⟨#[106]⟩, ⟨#[107]⟩] := by
  have h : (([⟨#[107]⟩, ⟨#[106]⟩] : List ByteArray).map bytesL).mergeSort leB = [[106], [107]] := by
    rw [mergeSort_of_perm (show (([⟨#[107]⟩, ⟨#[106]⟩] : List ByteArray).map bytesL).Perm [[106], [107]] from List.Perm.swap _ _ _)]
    exact List.mergeSort_of_pairwise (by decide)
  unfold sortS
  rw [h]
  rfl
theorem touch_x : (false || ([⟨#[120]⟩] : List ByteArray).any fun k => inL k [⟨#[107]⟩, ⟨#[106]⟩]) = false := by decide +kernel
theorem touch_xj : (false || ([⟨#[120]⟩, ⟨#[106]⟩] : List ByteArray).any fun k => inL k [⟨#[107]⟩, ⟨#[106]⟩]) = true := by decide +kernel
theorem touch_k0 : (false || ([⟨#[107]⟩] : List ByteArray).any fun k => inL k []) = false := by decide +kernel
theorem lits_ls (w : World) (g1 g2 g3 : Nat) (h1 : g1 = w.heap.size) (h2 : g2 = w.heap.size + 1) (h3 : g3 = w.heap.size + 2) :
    Ls (((w.alloc (.cells #[.string ⟨#[97]⟩, .string ⟨#[98]⟩] 9)).alloc (.cells #[.string ⟨#[99]⟩] 9)).alloc (.cells #[.slice (some ⟨g1, 0, none⟩) 2 2, .slice (some ⟨g2, 0, none⟩) 1 1] 41)) (.slice (some ⟨g3, 0, none⟩) 2 2) lsQ := by
  obtain ⟨W1, e1⟩ : ∃ W, w.alloc (.cells #[.string ⟨#[97]⟩, .string ⟨#[98]⟩] 9) = W := ⟨_, rfl⟩
  obtain ⟨W2, e2⟩ : ∃ W, W1.alloc (.cells #[.string ⟨#[99]⟩] 9) = W := ⟨_, rfl⟩
  have s1 : W1.heap.size = w.heap.size + 1 := by rw [← e1]; simp
  have s2 : W2.heap.size = w.heap.size + 2 := by rw [← e2]; simp [s1]
  rw [e1, e2, h1, h2, h3, ← s1, ← s2]
  have r1 : RdC W1 1 (.slice (some ⟨w.heap.size, 0, none⟩) 2 2) 2 (([⟨#[97]⟩, ⟨#[98]⟩] : List ByteArray).map .string) := by rw [← e1]; exact lit_rd2 w _ _
  have r2 : RdC W2 1 (.slice (some ⟨W1.heap.size, 0, none⟩) 1 1) 1 (([⟨#[99]⟩] : List ByteArray).map .string) := by rw [← e2]; exact lit_rd W1 _
  have r1' : RdC W2 1 (.slice (some ⟨w.heap.size, 0, none⟩) 2 2) 2 (([⟨#[97]⟩, ⟨#[98]⟩] : List ByteArray).map .string) := by rw [← e2]; exact r1.fr (Fr.alloc (fun _ => False) _ _) (fun _ _ h => h)
  refine ⟨_, RdC.of_owns (World.ownsRow_lit (e := 41) W2 #[.slice (some ⟨w.heap.size, 0, none⟩) 2 2, .slice (some ⟨W1.heap.size, 0, none⟩) 1 1] 2 (Nat.le_refl _) (by decide) rfl), fun i l hl => ?_⟩
  match i, hl with
  | 0, hl => cases hl; exact ⟨_, rfl, r1'.fr (Fr.alloc (fun _ => False) _ _) (fun _ _ h => h)⟩
  | 1, hl => cases hl; exact ⟨_, rfl, r2.fr (Fr.alloc (fun _ => False) _ _) (fun _ _ h => h)⟩
  | i + 2, hl => simp [lsQ] at hl
theorem sz_small (l : List ByteArray) (h : ∀ k ∈ l, k.size ≤ 2) : ∀ k ∈ l, k.size ≤ maxLen := fun k hk => Nat.le_trans (h k hk) (by decide)
/-- the loop's keys -/
def kyB (k : Nat) : List UInt8 := [UInt8.ofNat k, UInt8.ofNat (k / 256)]
def ky (k : Nat) : ByteArray := ⟨(kyB k).toArray⟩
theorem ky_inj {a b : Nat} (ha : a < 65536) (hb : b < 65536) (h : ky a = ky b) : a = b := by
  unfold ky kyB at h
  have h := congrArg (fun x : ByteArray => x.data.toList) h
  simp only [List.cons.injEq, and_true] at h
  have h1 := congrArg UInt8.toNat h.1
  have h2 := congrArg UInt8.toNat h.2
  simp only [UInt8.toNat_ofNat'] at h1 h2
  omega
theorem ky_new {k : Nat} (hk : k < 65536) : ky k ∉ (List.range k).map ky := by
  intro h
  obtain ⟨j, hj, e⟩ := List.mem_map.1 h
  rw [List.mem_range] at hj
  have := ky_inj (by omega) hk e
  omega
theorem ky_lit (w : World) (k : Nat) (hk : k < 65536) : RdC (w.alloc (.cells #[.int .u8 ((k : Int) % 256), .int .u8 ((k : Int) / 256)] 5)) 1 (.slice (some ⟨w.heap.size, 0, none⟩) 2 2) (kyB k).length ((kyB k).map u8) := by
  have h1 : ((UInt8.ofNat k).toNat : Int) = (k : Int) % 256 := by simp only [UInt8.toNat_ofNat']; omega
  have h2 : ((UInt8.ofNat (k / 256)).toNat : Int) = (k : Int) / 256 := by simp only [UInt8.toNat_ofNat']; omega
  rw [← h1, ← h2]
  exact RdC.of_owns (World.ownsRow_lit (e := 5) (size := 1) (base := 0) w #[.int .u8 (UInt8.ofNat k).toNat, .int .u8 (UInt8.ofNat (k / 256)).toNat] 2 (Nat.zero_le _) (by decide) rfl)
theorem ky_succ (k : Nat) : (List.range (k + 1)).map ky = (List.range k).map ky ++ [ky k] := by rw [List.range_succ, List.map_append]; rfl
theorem ky_len (k : Nat) : ((List.range k).map ky).length = k := by simp
theorem ky_size (k : Nat) : (ky k).size ≤ maxLen := (by decide : 2 ≤ maxLen)
end Go.Proofs.Ytpcjogmikgfgdaa
