/- Two hubs side by side. No condition. -/
import Derived.Test.YtleoeccjnchclaaDoorStH
import Derived.Test.YtleoeccjnchclaaDoorHubTp
import Derived.Test.YtleoeccjnchclaaDoorSame25
namespace Go.Proofs.YtleoeccjnchclaaDoor
open Go.RowKit
theorem HubT.other {w w' : World} {B N h : Nat} {F T : Nat → Prop} {fc fp : Int → List ByteArray} (H : HubT w B F N h fc fp) (hf : Fr T w w') (hd : ∀ k, F k → ¬ T k) : HubT w' B F N h fc fp := by
  obtain ⟨X, fb, H, ht⟩ := H
  exact ⟨X, fb, H.other hf hd, ht⟩
theorem HubT.base {w : World} {B B' N h : Nat} {F : Nat → Prop} {fc fp : Int → List ByteArray} (H : HubT w B F N h fc fp) (hb : B' ≤ B) : HubT w B' F N h fc fp := by
  obtain ⟨X, fb, H, ht⟩ := H
  exact ⟨X, fb, { H with lt := fun k hk => ⟨Nat.le_trans hb (H.lt k hk).1, (H.lt k hk).2⟩ }, ht⟩
theorem HubT.few {w : World} {B N h : Nat} {F : Nat → Prop} {fc fp : Int → List ByteArray} (H : HubT w B F N h fc fp) (s : Int) : (fc s).length + (fp s).length ≤ 1024 := by
  obtain ⟨X, fb, H, ht⟩ := H
  exact H.few s
theorem HubT.nodupC {w : World} {B N h : Nat} {F : Nat → Prop} {fc fp : Int → List ByteArray} (H : HubT w B F N h fc fp) (s : Int) : (fc s).Nodup := by
  obtain ⟨X, fb, H, ht⟩ := H
  exact H.c.nodup s
theorem HubT.nodupP {w : World} {B N h : Nat} {F : Nat → Prop} {fc fp : Int → List ByteArray} (H : HubT w B F N h fc fp) (s : Int) : (fp s).Nodup := by
  obtain ⟨X, fb, H, ht⟩ := H
  exact H.p.nodup s
/-- a new hub, later -/
theorem hub_new {w w' w'' : World} {h B : Nat} {X : HX} (H : HubX w' w.heap.size (fun k => w.heap.size ≤ k ∧ k < w'.heap.size) 0 h X (fun _ => []) (fun _ => []) (fun _ => [])) (hB : B ≤ w.heap.size) (hf : Fr (fun k => w'.heap.size ≤ k) w' w'') :
    HubT w'' B (fun k => w.heap.size ≤ k ∧ k < w'.heap.size) 0 h (fun _ => []) (fun _ => []) :=
  HubT.base (HubT.other ⟨X, _, H, fun k s => by simp⟩ hf (fun k hk h => by have := hk.2; omega)) hB
/-- two hubs -/
structure Duo (w0 w : World) (N M h g : Nat) (F G : Nat → Prop) (fc fp gc gp : Int → List ByteArray) : Prop where
  a : HubT w w0.heap.size F N h fc fp
  b : HubT w w0.heap.size G M g gc gp
  ap : ∀ i, F i → ¬ G i
  sa : Sm (fc, fp)
  sb : Sm (gc, gp)
  fr : Fr (fun k => w0.heap.size ≤ k) w0 w
section
variable {w0 w w' : World} {N N' M M' h g : Nat} {F G T : Nat → Prop} {fc fp gc gp fc' fp' : Int → List ByteArray}
theorem Duo.swap (H : Duo w0 w N M h g F G fc fp gc gp) : Duo w0 w M N g h G F gc gp fc fp := ⟨H.b, H.a, fun i hi hf => H.ap i hf hi, H.sb, H.sa, H.fr⟩
theorem Duo.quiet (H : Duo w0 w N M h g F G fc fp gc gp) (hf : Fr (fun _ => False) w w') : Duo w0 w' N M h g F G fc fp gc gp := ⟨H.a.quiet hf, H.b.quiet hf, H.ap, H.sa, H.sb, H.fr.wide hf (fun _ h => h.elim)⟩
theorem Duo.new (H : Duo w0 w N M h g F G fc fp gc gp) (hf : Below w.heap.size w w') : Duo w0 w' N M h g F G fc fp gc gp :=
  H.quiet ((Fr.of_below hf).mono fun _ hi hk => absurd hk (by omega))
theorem Duo.upN (H : Duo w0 w N M h g F G fc fp gc gp) (hN : N ≤ N') (hM : M ≤ M') : Duo w0 w N' M' h g F G fc fp gc gp := ⟨H.a.upN hN, H.b.upN hM, H.ap, H.sa, H.sb, H.fr⟩
theorem Duo.below (H : Duo w0 w N M h g F G fc fp gc gp) : Below w0.heap.size w0 w := H.fr.below (Nat.le_refl _) (fun _ h => h)
theorem Duo.step (H : Duo w0 w N M h g F G fc fp gc gp) (hf : Fr F w w') (hT : HubT w' w0.heap.size (Grew F w w') N' h fc' fp') (hs : Sm (fc', fp')) : Duo w0 w' N' M h g (Grew F w w') G fc' fp' gc gp :=
  ⟨hT, H.b.other hf (fun k hk h => H.ap k h hk), fun i hi hg => hi.elim (fun q => H.ap i q hg) (fun q => by have := (H.b.lt i hg).2; omega), hs, H.sb, H.fr.wide hf (fun i hi => .inl (H.a.lt i hi).1)⟩
theorem Duo.size (H : Duo w0 w N M h g F G fc fp gc gp) : w0.heap.size ≤ w.heap.size := H.fr.size
end
theorem ow_slot {w : World} {B : Nat} {e : TypeId} {sz : Nat} {n : Nat} {v : Value} {xs : List Value} (h : w.ownsRow B e sz v n xs) : ∃ a cap, v = .slice a n cap ∧ ∀ g, v.ownBlock = some g → B ≤ g ∧ g < w.heap.size := by
  obtain ⟨a, c, e⟩ := ow_sliceN h
  exact ⟨a, c, e, ow_lt h⟩
/-- what Channels, or Patterns, tells -/
def NamesC (w : World) (C : List ByteArray) (e : Ending) (w' : World) : Prop :=
  ∃ a c, e = .returned (.slice a C.length c) ∧ RdC w' 1 (.slice a C.length c) C.length (C.map .string) ∧ (∀ g, (Value.slice a C.length c).ownBlock = some g → w.heap.size ≤ g ∧ g < w'.heap.size) ∧ Fr (fun _ => False) w w'
theorem names_of {w w' : World} {l C : List ByteArray} {e : Ending} (h : RPriseS w l e w') (hC : sortS l = C) : NamesC w C e w' := by
  obtain ⟨v, rfl, hr, hb⟩ := h
  have hl : l.length = C.length := by rw [← hC, sortS_len]
  rw [hC, hl] at hr
  obtain ⟨a, c, rfl, hlow⟩ := ow_slot hr
  exact ⟨a, c, rfl, RdC.of_owns hr, hlow, (Fr.of_below hb).mono fun _ hi hk => absurd hk (by omega)⟩
section
variable {w : World} {B N h : Nat} {F : Nat → Prop} {fc fp : Int → List ByteArray}
theorem chan_any (H : HubT w B F N h fc fp) (s : Int) (hs : kI.ok s) {C : List ByteArray} (hC : sortS (fc s) = C) : Calls Tryd.prog 9 #[.pointer (some ⟨h, 0, none⟩), .int .i64 s] w (NamesC w C) :=
  (hubChannels_any H s hs).mono fun e w' hp => names_of hp hC
theorem patt_any (H : HubT w B F N h fc fp) (s : Int) (hs : kI.ok s) {C : List ByteArray} (hC : sortS (fp s) = C) : Calls Tryd.prog 10 #[.pointer (some ⟨h, 0, none⟩), .int .i64 s] w (NamesC w C) :=
  (hubPatterns_any H s hs).mono fun e w' hp => names_of hp hC
end
/-- the cells of an out -/
theorem out_at {w : World} {B : Nat} {a : Option Addr} {n c : Nat} {outs : List Ot} (h : OutsAt w B (.slice a n c) outs) (j : Nat) (hj : j < outs.length) :
    ∃ g off ua uc, a = some ⟨g, off, none⟩ ∧ w.cell? ⟨g, off + j * 5, none⟩ = some (.int .i64 outs[j].1) ∧ w.cell? ⟨g, off + j * 5 + 1, none⟩ = some (.int .i64 6) ∧ w.cell? ⟨g, off + j * 5 + 2, none⟩ = some (.string ⟨#[]⟩) ∧ w.cell? ⟨g, off + j * 5 + 3, none⟩ = some (.int .i64 0) ∧
      w.cell? ⟨g, off + j * 5 + 4, none⟩ = some (.slice ua outs[j].2.length uc) ∧ w.ownsRow B 39 4 (.slice ua outs[j].2.length uc) outs[j].2.length (outs[j].2.flatMap bulkC) := by
  obtain ⟨vals, h1, h2, h3⟩ := h
  have hz : (outs.zip vals).length = outs.length := by rw [List.length_zip]; omega
  have hr := RdC.of_owns h2
  obtain ⟨a', c', e⟩ := ow_sliceN h2
  cases e
  have hf := fun i hi => flat_atD outC 5 (fun _ => rfl) (outs.zip vals) j i (by omega) hi
  have he : (outs.zip vals)[j]'(by omega) = (outs[j], vals[j]'(by omega)) := by rw [List.getElem_zip]
  simp only [he] at hf
  have hp : 0 < ((outs.zip vals).flatMap outC).length := by
    have h0 := hf 0 (by decide)
    have h2 : (outC (outs[j], vals[j]'(by omega)))[0]? = some (.int .i64 outs[j].1) := rfl
    rw [h2] at h0
    have := (List.getElem?_eq_some_iff.1 h0).1
    omega
  obtain ⟨g, off, rfl, hc⟩ := hr.at hp
  have hu := h3 j outs[j] (vals[j]'(by omega)) (List.getElem?_eq_getElem hj) (List.getElem?_eq_getElem (by omega))
  obtain ⟨ua, uc, hue⟩ := ow_sliceN hu
  rw [hue] at hu
  refine ⟨g, off, ua, uc, rfl, hc (j * 5 + 0) _ (by rw [hf 0 (by decide)]; rfl), ?_, ?_, ?_, ?_, hu⟩
  · rw [Nat.add_assoc]; exact hc (j * 5 + 1) _ (by rw [hf 1 (by decide)]; rfl)
  · rw [Nat.add_assoc]; exact hc (j * 5 + 2) _ (by rw [hf 2 (by decide)]; rfl)
  · rw [Nat.add_assoc]; exact hc (j * 5 + 3) _ (by rw [hf 3 (by decide)]; rfl)
  · rw [Nat.add_assoc]; exact hc (j * 5 + 4) _ (by rw [hf 4 (by decide)]; show some (vals[j]'_) = _; rw [hue])
theorem out_slice {w : World} {B : Nat} {v : Value} {outs : List Ot} (h : OutsAt w B v outs) : ∃ a c, v = .slice a outs.length c ∧ ∀ g, v.ownBlock = some g → B ≤ g ∧ g < w.heap.size := by
  obtain ⟨vals, h1, h2, h3⟩ := h
  exact ow_slot h2
/-- what Tell tells -/
def TellC (w : World) (outs : List Ot) (e : Ending) (w' : World) : Prop := ∃ a c, e = .returned (.slice a outs.length c) ∧ OutsAt w' w.heap.size (.slice a outs.length c) outs ∧ Fr (fun _ => False) w w' ∧ outs.length ≤ 2199023255488
theorem tell_len {w : World} {B N h : Nat} {F : Nat → Prop} {X : HX} {fb : ByteArray → List Int} {fc fp : Int → List ByteArray} (H : HubX w B F N h X fb fc fp) (k text : ByteArray) : (tellL fb (X.pt.map (·.1)) fp k text).length ≤ N := by
  have h1 := H.told k
  have h2 := flat_tot (L := X.pt) (fp := fp) (sortI_perm (X.pt.map (·.1))) k text
  unfold tellL
  rw [List.length_append, List.length_map, sortI_len]
  have h3 : ((sortI (X.pt.map (·.1))).flatMap fun s => ((sortS (fp s)).filter fun p => gm p k).map fun p => (s, [⟨#[112, 109, 101, 115, 115, 97, 103, 101]⟩, p, k, text])).length ≤ tot X.pt fp := h2
  omega
/-- Tell, by the two rows alone -/
theorem tellT_any {w : World} {B N h : Nat} {F : Nat → Prop} {fc fp : Int → List ByteArray} (H : HubT w B F N h fc fp) (hN : N ≤ 2199023255488) (hs : Sm (fc, fp)) (k text : ByteArray) (hk : k.size < 4611686018427387904) {Z : List Int} (hZ : Z.Pairwise (· < ·)) (hz : Named (fc, fp) Z) :
    Calls Tryd.prog 15 #[.pointer (some ⟨h, 0, none⟩), .string k, .string text] w (TellC w (Z.flatMap (nameL fc k text) ++ Z.flatMap (patL fp k text))) := by
  obtain ⟨X, fb, H, ht⟩ := H
  have he : tellL fb (X.pt.map (·.1)) fp k text = Z.flatMap (nameL fc k text) ++ Z.flatMap (patL fp k text) := tell_split ht k text (H.b.nodup k) (fun s => H.c.nodup s) H.p.top.nodup hZ (fun s hs => by
    cases hk : lkp s X.pt with
    | none => exact absurd (H.p.no s hk) hs
    | some b => exact List.mem_map.2 ⟨_, look_mem hk, rfl⟩) hz.2 hz.1
  have hl := tell_len H k text
  rw [he] at hl
  refine (tell_any H ht hN k text hk (fun s p hp => by have := hs.2 s p hp; omega)).mono fun e w' ⟨v, h1, h2, h3⟩ => ?_
  rw [he] at h2
  obtain ⟨a, c, rfl, _⟩ := out_slice h2
  exact ⟨a, c, h1, h2, h3, by omega⟩
/-- Count, by the rows alone -/
theorem countT_any {w : World} {B N h : Nat} {F : Nat → Prop} {fc fp : Int → List ByteArray} (H : HubT w B F N h fc fp) (k text : ByteArray) (hk : k.size ≤ maxLen) {Z : List Int} (hZ : Z.Pairwise (· < ·)) (hz : Named (fc, fp) Z) :
    Calls Tryd.prog 19 #[.pointer (some ⟨h, 0, none⟩), .string k] w fun e w' => e = .returned (.int .i64 (Z.flatMap (nameL fc k text)).length) ∧ w = w' := by
  obtain ⟨X, fb, H, ht⟩ := H
  rw [tell_count ht k text (H.b.nodup k) (fun s => H.c.nodup s) hZ hz.1]
  exact hubCount_any H k hk
/-- a session that listens to nothing is told nothing -/
theorem tellApart_any {w : World} {B N h : Nat} {F : Nat → Prop} {fc fp : Int → List ByteArray} (H : HubT w B F N h fc fp) (hN : N ≤ 2199023255488) (hs : Sm (fc, fp)) (k text : ByteArray) (hk : k.size < 4611686018427387904) {s : Int} (h1 : fc s = []) (h2 : fp s = []) :
    Calls Tryd.prog 15 #[.pointer (some ⟨h, 0, none⟩), .string k, .string text] w fun e w' => ∃ outs, TellC w outs e w' ∧ ∀ o ∈ outs, o.1 ≠ s := by
  obtain ⟨X, fb, H, ht⟩ := H
  have hl := tell_len H k text
  refine (tell_any H ht hN k text hk (fun s p hp => by have := hs.2 s p hp; omega)).mono fun e w' ⟨v, q1, q2, q3⟩ => ?_
  obtain ⟨a, c, rfl, _⟩ := out_slice q2
  exact ⟨_, ⟨a, c, q1, q2, q3, by omega⟩, tell_apart ht h1 h2 k text⟩
end Go.Proofs.YtleoeccjnchclaaDoor
