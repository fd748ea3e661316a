/- pantrylaw25's name of an op; A hub beside the document's. No condition but sizes. -/
import Derived.Test.YtleoeccjnchclaaGreatDoorZba
import Derived.Test.YtleoeccjnchclaaGreatDoorZbc
import Derived.Lib.MinMax
namespace Go.Proofs.YtleoeccjnchclaaGreatDoor
open Go.RowKit
/-- as many noughts as Big says -/
def bigN (big : Int) : Nat := (min big 1026).toNat
def nameS (k : ByteArray) (big : Int) : ByteArray := if big ≤ 0 then k else k ++ zN (bigN big)
theorem nameS_size (k : ByteArray) (big : Int) : (nameS k big).size ≤ k.size + 1026 := by
  unfold nameS
  split
  · omega
  · rw [ByteArray.size_append, zN_size]
    unfold bigN
    omega
theorem zero_madeD (n : Nat) (hn : n ≤ 2097152) : ∃ (cs : Array Value), (∀ w : World, (Instr.makeSlice 59 (.int .i64 n) (.int .i64 n)).run Tryz.prog w = .ok (.slice (some ⟨w.heap.size, 0, none⟩) n n) (w.alloc (.cells cs 5))) ∧
    ∀ w : World, (convert 59 9 (.slice (some ⟨w.heap.size, 0, none⟩) n n)).run Tryz.prog (w.alloc (.cells cs 5)).drew = .ok (.string (zN n)) (w.alloc (.cells cs 5)).drew := by
  obtain ⟨i0, hi, hz0, hz1, hz2⟩ := info_parts info_u8k
  refine ⟨((List.replicate n (0 : UInt8)).map u8).toArray, fun w => ?_, fun w => ?_⟩
  · have h := run_make (P := Tryz.prog) (w := w) 59 5 i0 (.int .u8 0) Tryz.underlying59 hi hz0 .i64 .i64 n n (by omega) (by omega) (by rw [hz2]; omega) (by omega)
    rw [h, hz1, Nat.mul_one, Int.toNat_natCast, show (Value.int IntKind.u8 0).cells = #[.int .u8 0] from rfl, madeCells_one, List.map_replicate]
    rfl
  · have hr := RdC.of_owns (World.ownsRow_lit (base := w.heap.size) (e := 5) (size := 1) w ((List.replicate n (0 : UInt8)).map u8).toArray n (Nat.le_refl _) (by unfold maxLen; omega) (by simp))
    obtain ⟨h1, ad, cap, e, h2, h3, h4, h5⟩ := hr
    cases e
    have h6 := run_convert_bytes_back (P := Tryz.prog) (w.alloc (.cells ((List.replicate n (0 : UInt8)).map u8).toArray 5)).drew 59 9 5 ⟨w.heap.size, 0, none⟩ n (List.replicate n (0 : UInt8)) Tryz.underlying59 Tryz.underlying5 Tryz.underlying9 (fun j hj => (Fr.drew (fun _ => False) _).cell (h5 _ rfl j _ (by rw [List.getElem?_map, List.getElem?_eq_getElem hj]; rfl)) (fun h => h))
    rw [List.length_replicate] at h6
    exact h6
set_option maxRecDepth 100000 in
set_option maxHeartbeats 2000000 in
theorem name25_any (w : World) (who do_ ses : Int) (k text : ByteArray) (big : Int) (hk : k.size ≤ 140737488355328) (hb : -9223372036854775808 ≤ big) :
    Calls Tryz.prog 8 #[.agg #[.int .i64 who, .int .i64 do_, .int .i64 ses, .string k, .string text, .int .i64 big]] w fun e w' => e = .returned (.string (nameS k big)) ∧ Fr (fun _ => False) w w' := by
  by_cases h0 : big ≤ 0
  · have e : nameS k big = k := by unfold nameS; rw [if_pos h0]
    rw [e]
    have g1 : decide (big ≤ 0) = true := decide_eq_true h0
    clear e h0
    go_enter Tryz.func8, Tryz.ntmps8
    go_wp2
    go_ret
    exact ⟨rfl, Fr.alloc _ _ _⟩
  · have g1 : decide (big ≤ 0) = false := decide_eq_false h0
    obtain ⟨nb, hnb⟩ : ∃ n, bigN big = n := ⟨_, rfl⟩
    have hmin : min big 1026 = (nb : Int) := by rw [← hnb]; unfold bigN; omega
    have hnl : nb ≤ 1026 := by omega
    obtain ⟨cs, hmk, hcv⟩ := zero_madeD nb (by omega)
    have e : nameS k big = k ++ zN nb := by unfold nameS; rw [if_neg h0, hnb]
    obtain ⟨z, hz⟩ : ∃ z : ByteArray, zN nb = z := ⟨_, rfl⟩
    have hzs : z.size = nb := by rw [← hz]; exact zN_size nb
    rw [hz] at e hcv
    rw [e]
    have HZS := Lib.hid hzs
    have hlim : ¬ 9223372036854775807 < k.size + z.size := by rw [hzs]; omega
    have hcv2 := hcv (w.alloc (.cells #[.int .i64 who, .int .i64 do_, .int .i64 ses, .string k, .string text, .int .i64 big] 28))
    rw [World.size_alloc] at hcv2
    clear e h0 hnb hz hzs hcv
    go_enter Tryz.func8, Tryz.ntmps8
    go_wp2
    go_region
    go_wp2
    go_ret
    exact ⟨rfl, ((Fr.alloc (fun _ => False) w _).thenAlloc _).thenDrew⟩
end Go.Proofs.YtleoeccjnchclaaGreatDoor
namespace Go.Proofs.YtleoeccjnchclaaGreatDoor
open Go.RowKit
structure PairX (w : World) (B : Nat) (F G : Nat → Prop) (N h m : Nat) (fc fp : Int → List ByteArray) (v : Value) (R : List Rw) : Prop where
  a : HubT w B F N h fc fp
  b : RefH w B G m v R
  ap : ∀ i, F i → ¬ G i
  sm : Sm (fc, fp)
  rw : RowsOf R fc fp
  len : R.length ≤ N
/-- a hub beside the document's, whose blocks are of S -/
def PairE (w : World) (B : Nat) (S : Nat → Prop) (N h m : Nat) : Prop :=
  ∃ (F G : Nat → Prop) (fc fp : Int → List ByteArray) (v : Value) (R : List Rw), PairX w B F G N h m fc fp v R ∧ (∀ i, F i ∨ G i → S i) ∧ ∀ i, S i → B ≤ i ∧ i < w.heap.size
def PlaysC (w : World) (B : Nat) (S : Nat → Prop) (N h m : Nat) (e : Ending) (w' : World) : Prop := e = .returned (.bool true) ∧ Fr S w w' ∧ PairE w' B (Grew S w w') (N + 1) h m
section
variable {w w1 w2 w3 w4 w' : World} {B N N' h m : Nat} {F G S T : Nat → Prop} {fc fp fc' fp' : Int → List ByteArray} {v v' : Value} {R R' : List Rw}
theorem PairX.quiet (H : PairX w B F G N h m fc fp v R) (hf : Fr (fun _ => False) w w') : PairX w' B F G N h m fc fp v R := ⟨H.a.quiet hf, H.b.quiet hf, H.ap, H.sm, H.rw, H.len⟩
theorem PairX.nc (H : PairX w B F G N h m fc fp v R) : ∀ s, (fc s).Nodup := H.a.nodupC
theorem PairX.np (H : PairX w B F G N h m fc fp v R) : ∀ s, (fp s).Nodup := H.a.nodupP
theorem PairX.step (H : PairX w B F G N h m fc fp v R) (hf2 : Fr G w w2) (hR : RefH w2 B (Grew G w w2) m v' R') (hq3 : Fr (fun _ => False) w2 w3) (hf4 : Fr F w3 w4) (hT : HubT w4 B (Grew F w3 w4) N' h fc' fp') (hrw : RowsOf R' fc' fp') (hsm : Sm (fc', fp')) (hlen : R'.length ≤ N') :
    PairX w4 B (Grew F w3 w4) (Grew G w w2) N' h m fc' fp' v' R' ∧ Fr (fun i => F i ∨ G i) w w4 := by
  have s2 := hf2.size
  have s3 := hq3.size
  refine ⟨⟨hT, (hR.quiet hq3).other hf4 (fun k hk hF => ?_), fun i hi hg => ?_, hsm, hrw, hlen⟩, ?_⟩
  · rcases hk with hk | hk
    · exact H.ap k hF hk
    · have := (H.a.lt k hF).2; have := hk.1; omega
  · rcases hi with hi | hi
    · rcases hg with hg | hg
      · exact H.ap i hi hg
      · have := (H.a.lt i hi).2; have := hg.1; omega
    · rcases hg with hg | hg
      · have := (H.b.lt i hg).2; have := hi.1; omega
      · have := hg.2; have := hi.1; omega
  · exact ((hf2.mono (T := fun i => F i ∨ G i) (fun i hi _ => .inr hi)).wide hq3 (fun _ h => h.elim)).wide hf4 (fun i hi => .inl (.inl hi))
/-- behind quiet steps ahead of it and behind it -/
theorem pair_fin {w0 w5 : World} {F' G' : Nat → Prop} (hS : ∀ i, F i ∨ G i → S i) (hl : ∀ i, S i → B ≤ i ∧ i < w0.heap.size) (hB : B ≤ w0.heap.size) (hq : Fr (fun _ => False) w0 w) (H : PairX w4 B F' G' N' h m fc' fp' v' R') (hf : Fr (fun i => F i ∨ G i) w w4) (hn : ∀ i, F' i ∨ G' i → F i ∨ G i ∨ w.heap.size ≤ i) (hq5 : Fr (fun _ => False) w4 w5) :
    Fr S w0 w5 ∧ PairE w5 B (Grew S w0 w5) N' h m := by
  have hF : Fr S w0 w5 := (((hq.mono (T := S) (fun _ h _ => h.elim)).wide hf (fun i hi => .inl (hS i hi))).wide hq5 (fun _ h => h.elim))
  have s0 := hq.size
  refine ⟨hF, F', G', _, _, _, _, H.quiet hq5, fun i hi => ?_, grew_lt hl hB hF.size⟩
  have hlt : i < w5.heap.size := by
    rcases hi with hi | hi
    · exact ((H.quiet hq5).a.lt i hi).2
    · exact ((H.quiet hq5).b.lt i hi).2
  rcases hn i hi with h1 | h1 | h1
  · exact .inl (hS i (.inl h1))
  · exact .inl (hS i (.inr h1))
  · exact .inr ⟨by omega, hlt⟩
theorem grew_in (s2 : w.heap.size ≤ w2.heap.size) (s3 : w2.heap.size ≤ w3.heap.size) : ∀ i, Grew F w3 w4 i ∨ Grew G w w2 i → F i ∨ G i ∨ w.heap.size ≤ i := fun i hi => by
  rcases hi with (h | h) | (h | h)
  · exact .inl h
  · exact .inr (.inr (by have := h.1; omega))
  · exact .inr (.inl h)
  · exact .inr (.inr h.1)
end
end Go.Proofs.YtleoeccjnchclaaGreatDoor
