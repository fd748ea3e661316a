/- A hub in the chapter's examples: its calls, by what they make of the two rows; texts of noughts. No condition. -/
import Derived.Test.YtleoeccjnchclaaDoorHubKnP
import Derived.Test.YtleoeccjnchclaaDoorMake
namespace Go.Proofs.YtleoeccjnchclaaDoor
open Go.RowKit
/-- a hub, of this call -/
def Kn (w0 w : World) (N h : Nat) (fc fp : Int → List ByteArray) : Prop := ∃ F : Nat → Prop, HubT w w0.heap.size F N h fc fp ∧ Fr (fun k => w0.heap.size ≤ k) w0 w
section
variable {w0 w w' : World} {N h : Nat} {fc fp f : Int → List ByteArray}
theorem Kn.quiet (H : Kn w0 w N h fc fp) (hf : Fr (fun _ => False) w w') : Kn w0 w' N h fc fp := by
  obtain ⟨F, h1, h2⟩ := H
  exact ⟨F, h1.quiet hf, h2.wide hf (fun _ h => h.elim)⟩
theorem Kn.step {F : Nat → Prop} {fc' fp' : Int → List ByteArray} {N' : Nat} (h1 : HubT w w0.heap.size F N h fc fp) (h2 : Fr (fun k => w0.heap.size ≤ k) w0 w) (hf : Fr F w w') (hT : HubT w' w0.heap.size (Grew F w w') N' h fc' fp') : Kn w0 w' N' h fc' fp' :=
  ⟨_, hT, h2.wide hf (fun i hi => .inl (h1.lt i hi).1)⟩
theorem Kn.below (H : Kn w0 w N h fc fp) : Below w0.heap.size w0 w := by
  obtain ⟨F, h1, h2⟩ := H
  exact h2.below (Nat.le_refl _) (fun _ h => h)
theorem kn_listen (H : Kn w0 w N h fc fp) (hN : N ≤ 4398046511104) (s : Int) (k : ByteArray) (hs : kI.ok s) (hk : k.size ≤ maxLen) {n c : Nat} (e : lsRes fc fp s k = (n, c, f)) :
    Calls Tryd.prog 20 #[.pointer (some ⟨h, 0, none⟩), .int .i64 s, .string k] w fun e w' => e = .returned (.tuple #[.int .i64 n, .int .i64 c]) ∧ Kn w0 w' (N + 1) h f fp := by
  obtain ⟨F, h1, h2⟩ := H
  have h3 := hubListen_any h1 h2.size hN s k hs hk
  rw [e] at h3
  exact h3.mono fun e w' ⟨q1, q2, q3⟩ => ⟨q1, Kn.step h1 h2 q2 q3⟩
theorem kn_like (H : Kn w0 w N h fc fp) (hN : N ≤ 4398046511104) (s : Int) (k : ByteArray) (hs : kI.ok s) (hk : k.size ≤ maxLen) {n c : Nat} (e : lsRes fp fc s k = (n, c, f)) :
    Calls Tryd.prog 21 #[.pointer (some ⟨h, 0, none⟩), .int .i64 s, .string k] w fun e w' => e = .returned (.tuple #[.int .i64 n, .int .i64 c]) ∧ Kn w0 w' (N + 1) h fc f := by
  obtain ⟨F, h1, h2⟩ := H
  have h3 := hubLike_any h1 h2.size hN s k hs hk
  rw [e] at h3
  exact h3.mono fun e w' ⟨q1, q2, q3⟩ => ⟨q1, Kn.step h1 h2 q2 q3⟩
theorem kn_leave (H : Kn w0 w N h fc fp) (s : Int) (k : ByteArray) (hs : kI.ok s) (hk : k.size ≤ maxLen) {n : Nat} (e : delF fc s k = f) (hn : (f s).length + (fp s).length = n) :
    Calls Tryd.prog 12 #[.pointer (some ⟨h, 0, none⟩), .int .i64 s, .string k] w fun e w' => e = .returned (.int .i64 n) ∧ Kn w0 w' N h f fp := by
  obtain ⟨F, h1, h2⟩ := H
  have h3 := hubLeave_any h1 h2.size s k hs hk
  rw [e, hn] at h3
  exact h3.mono fun e w' ⟨q1, q2, q3⟩ => ⟨q1, Kn.step h1 h2 q2 q3⟩
theorem kn_leaveLike (H : Kn w0 w N h fc fp) (s : Int) (k : ByteArray) (hs : kI.ok s) (hk : k.size ≤ maxLen) {n : Nat} (e : delF fp s k = f) (hn : (fc s).length + (f s).length = n) :
    Calls Tryd.prog 16 #[.pointer (some ⟨h, 0, none⟩), .int .i64 s, .string k] w fun e w' => e = .returned (.int .i64 n) ∧ Kn w0 w' N h fc f := by
  obtain ⟨F, h1, h2⟩ := H
  have h3 := hubLeaveLike_any h1 h2.size s k hs hk
  rw [e, hn] at h3
  exact h3.mono fun e w' ⟨q1, q2, q3⟩ => ⟨q1, Kn.step h1 h2 q2 q3⟩
theorem kn_drop (H : Kn w0 w N h fc fp) (s : Int) (hs : kI.ok s) (hk : ∀ x ∈ fc s, x.size ≤ maxLen) {f' : Int → List ByteArray} (e1 : cutF fc s = f) (e2 : cutF fp s = f') :
    Calls Tryd.prog 14 #[.pointer (some ⟨h, 0, none⟩), .int .i64 s] w fun e w' => (∃ v, e = .returned v) ∧ Kn w0 w' N h f f' := by
  obtain ⟨F, h1, h2⟩ := H
  have h3 := hubDrop_any h1 h2.size s hs hk
  rw [e1, e2] at h3
  exact h3.mono fun e w' ⟨q1, q2, q3⟩ => ⟨q1, Kn.step h1 h2 q2 q3⟩
theorem kn_tell (H : Kn w0 w N h fc fp) (hN : N ≤ 2199023255488) (hs : Sm (fc, fp)) (k text : ByteArray) (hk : k.size < 4611686018427387904) {Z : List Int} (hZ : Z.Pairwise (· < ·)) (hz : Named (fc, fp) Z) {O : List Ot} (e : Z.flatMap (nameL fc k text) ++ Z.flatMap (patL fp k text) = O) :
    Calls Tryd.prog 15 #[.pointer (some ⟨h, 0, none⟩), .string k, .string text] w fun e w' => Kn w0 w' N h fc fp ∧ TellC w O e w' := by
  obtain ⟨F, h1, h2⟩ := H
  have h3 := tellT_any h1 hN hs k text hk hZ hz
  rw [e] at h3
  refine h3.mono fun e w' hp => ⟨?_, hp⟩
  obtain ⟨a, c, _, _, hf, _⟩ := hp
  exact Kn.quiet ⟨F, h1, h2⟩ hf
theorem kn_count (H : Kn w0 w N h fc fp) (k text : ByteArray) (hk : k.size ≤ maxLen) {Z : List Int} (hZ : Z.Pairwise (· < ·)) (hz : Named (fc, fp) Z) {n : Nat} (e : (Z.flatMap (nameL fc k text)).length = n) :
    Calls Tryd.prog 19 #[.pointer (some ⟨h, 0, none⟩), .string k] w fun e w' => e = .returned (.int .i64 n) ∧ w = w' := by
  obtain ⟨F, h1, h2⟩ := H
  rw [← e]
  exact countT_any h1 k text hk hZ hz
end
theorem info_u8k : (Tryd.prog.info? 5).map (fun i => (i.zero, i.size, i.bytes)) = some (some (.int .u8 0), 1, 1) := by kernel_rfl
theorem zero_made (n : Nat) (hn : n ≤ 2097152) : ∃ (cs : Array Value), (∀ w : World, (Instr.makeSlice 51 (.int .i64 n) (.int .i64 n)).run Tryd.prog w = .ok (.slice (some ⟨w.heap.size, 0, none⟩) n n) (w.alloc (.cells cs 5))) ∧
    ∀ w : World, (convert 51 9 (.slice (some ⟨w.heap.size, 0, none⟩) n n)).run Tryd.prog (w.alloc (.cells cs 5)) = .ok (.string (zN n)) (w.alloc (.cells cs 5)) := by
  obtain ⟨i0, hi, hz0, hz1, hz2⟩ := info_parts info_u8k
  refine ⟨((List.replicate n (0 : UInt8)).map u8).toArray, fun w => ?_, fun w => ?_⟩
  · have h := run_make (P := Tryd.prog) (w := w) 51 5 i0 (.int .u8 0) Tryd.underlying51 hi hz0 .i64 .i64 n n (by omega) (by omega) (by rw [hz2]; omega) (by omega)
    rw [h, hz1, Nat.mul_one, Int.toNat_natCast, show (Value.int IntKind.u8 0).cells = #[.int .u8 0] from rfl, madeCells_one, List.map_replicate]
    rfl
  · have hr := RdC.of_owns (World.ownsRow_lit (base := w.heap.size) (e := 5) (size := 1) w ((List.replicate n (0 : UInt8)).map u8).toArray n (Nat.le_refl _) (by unfold maxLen; omega) (by simp))
    obtain ⟨h1, ad, cap, e, h2, h3, h4, h5⟩ := hr
    cases e
    have h6 := run_convert_bytes_back (P := Tryd.prog) (w.alloc (.cells ((List.replicate n (0 : UInt8)).map u8).toArray 5)) 51 9 5 ⟨w.heap.size, 0, none⟩ n (List.replicate n (0 : UInt8)) Tryd.underlying51 Tryd.underlying5 Tryd.underlying9 (fun j hj => h5 _ rfl j _ (by rw [List.getElem?_map, List.getElem?_eq_getElem hj]; rfl))
    rw [List.length_replicate] at h6
    exact h6
/-- a text of two bytes -/
theorem two_made (a b : UInt8) (w : World) : (convert 51 9 (.slice (some ⟨w.heap.size, 0, none⟩) 2 2)).run Tryd.prog (w.alloc (.cells #[.int .u8 a.toNat, .int .u8 b.toNat] 5)) = .ok (.string ⟨#[a, b]⟩) (w.alloc (.cells #[.int .u8 a.toNat, .int .u8 b.toNat] 5)) := by
  have hr := RdC.of_owns (World.ownsRow_lit (base := w.heap.size) (e := 5) (size := 1) w #[.int .u8 a.toNat, .int .u8 b.toNat] 2 (Nat.le_refl _) (by decide) rfl)
  obtain ⟨h1, ad, cap, e, h2, h3, h4, h5⟩ := hr
  cases e
  exact run_convert_bytes_back (P := Tryd.prog) (w.alloc (.cells #[.int .u8 a.toNat, .int .u8 b.toNat] 5)) 51 9 5 ⟨w.heap.size, 0, none⟩ 2 [a, b] Tryd.underlying51 Tryd.underlying5 Tryd.underlying9 (fun j hj => h5 _ rfl j _ (by
    match j, hj with
    | 0, _ => rfl
    | 1, _ => rfl))
end Go.Proofs.YtleoeccjnchclaaDoor
