/- Two hubs side by side; The document's hub in memory: Size, names, ahead, Count, New; The document's hub: names, Channels, Patterns; The document's hub: leave, Leave, LeaveLike, Drop; The document's hub: Leave, LeaveLike, Drop; The document's hub: listen; The document's hub: the walk of listen; Listen, ListenLike; The document's hub: Listen, ListenLike; no hub; No hub: what its calls tell; Plain: what the chapter's examples make of a hub; A hub in the chapter's examples: its calls, by what they make of the two rows; texts of noughts. No condition but sizes. -/
import Derived.Test.YtleoeccjnchclaaGreatDoorZan
import Derived.Test.YtleoeccjnchclaaGreatDoorZaz
import Derived.Test.YtleoeccjnchclaaGreatDoorZaz
import Derived.Test.YtleoeccjnchclaaGreatDoorZax
import Derived.Test.YtleoeccjnchclaaGreatDoorZae
namespace Go.Proofs.YtleoeccjnchclaaGreatDoor
open Go.RowKit
theorem HubT.other {w w' : World} {B N h : Nat} {F T : Nat → Prop} {fc fp : Int → List ByteArray} (H : HubT w B F N h fc fp) (hf : Fr T w w') (hd : ∀ k, F k → ¬ T k) : HubT w' B F N h fc fp := by
  obtain ⟨X, fb, H, ht⟩ := H
  exact ⟨X, fb, H.other hf hd, ht⟩
theorem HubT.base {w : World} {B B' N h : Nat} {F : Nat → Prop} {fc fp : Int → List ByteArray} (H : HubT w B F N h fc fp) (hb : B' ≤ B) : HubT w B' F N h fc fp := by
  obtain ⟨X, fb, H, ht⟩ := H
  exact ⟨X, fb, { H with lt := fun k hk => ⟨Nat.le_trans hb (H.lt k hk).1, (H.lt k hk).2⟩ }, ht⟩
theorem HubT.few {w : World} {B N h : Nat} {F : Nat → Prop} {fc fp : Int → List ByteArray} (H : HubT w B F N h fc fp) (s : Int) : (fc s).length + (fp s).length ≤ 1024 := by
  obtain ⟨X, fb, H, ht⟩ := H
  exact H.few s
theorem HubT.nodupC {w : World} {B N h : Nat} {F : Nat → Prop} {fc fp : Int → List ByteArray} (H : HubT w B F N h fc fp) (s : Int) : (fc s).Nodup := by
  obtain ⟨X, fb, H, ht⟩ := H
  exact H.c.nodup s
theorem HubT.nodupP {w : World} {B N h : Nat} {F : Nat → Prop} {fc fp : Int → List ByteArray} (H : HubT w B F N h fc fp) (s : Int) : (fp s).Nodup := by
  obtain ⟨X, fb, H, ht⟩ := H
  exact H.p.nodup s
/-- a new hub, later -/
theorem hub_new {w w' w'' : World} {h B : Nat} {X : HX} (H : HubX w' w.heap.size (fun k => w.heap.size ≤ k ∧ k < w'.heap.size) 0 h X (fun _ => []) (fun _ => []) (fun _ => [])) (hB : B ≤ w.heap.size) (hf : Fr (fun k => w'.heap.size ≤ k) w' w'') :
    HubT w'' B (fun k => w.heap.size ≤ k ∧ k < w'.heap.size) 0 h (fun _ => []) (fun _ => []) :=
  HubT.base (HubT.other ⟨X, _, H, fun k s => by simp⟩ hf (fun k hk h => by have := hk.2; omega)) hB
/-- two hubs -/
structure Duo (w0 w : World) (N M h g : Nat) (F G : Nat → Prop) (fc fp gc gp : Int → List ByteArray) : Prop where
  a : HubT w w0.heap.size F N h fc fp
  b : HubT w w0.heap.size G M g gc gp
  ap : ∀ i, F i → ¬ G i
  sa : Sm (fc, fp)
  sb : Sm (gc, gp)
  fr : Fr (fun k => w0.heap.size ≤ k) w0 w
section
variable {w0 w w' : World} {N N' M M' h g : Nat} {F G T : Nat → Prop} {fc fp gc gp fc' fp' : Int → List ByteArray}
theorem Duo.swap (H : Duo w0 w N M h g F G fc fp gc gp) : Duo w0 w M N g h G F gc gp fc fp := ⟨H.b, H.a, fun i hi hf => H.ap i hf hi, H.sb, H.sa, H.fr⟩
theorem Duo.quiet (H : Duo w0 w N M h g F G fc fp gc gp) (hf : Fr (fun _ => False) w w') : Duo w0 w' N M h g F G fc fp gc gp := ⟨H.a.quiet hf, H.b.quiet hf, H.ap, H.sa, H.sb, H.fr.wide hf (fun _ h => h.elim)⟩
theorem Duo.new (H : Duo w0 w N M h g F G fc fp gc gp) (hf : Below w.heap.size w w') : Duo w0 w' N M h g F G fc fp gc gp :=
  H.quiet ((Fr.of_below hf).mono fun _ hi hk => absurd hk (by omega))
theorem Duo.upN (H : Duo w0 w N M h g F G fc fp gc gp) (hN : N ≤ N') (hM : M ≤ M') : Duo w0 w N' M' h g F G fc fp gc gp := ⟨H.a.upN hN, H.b.upN hM, H.ap, H.sa, H.sb, H.fr⟩
theorem Duo.below (H : Duo w0 w N M h g F G fc fp gc gp) : Below w0.heap.size w0 w := H.fr.below (Nat.le_refl _) (fun _ h => h)
theorem Duo.step (H : Duo w0 w N M h g F G fc fp gc gp) (hf : Fr F w w') (hT : HubT w' w0.heap.size (Grew F w w') N' h fc' fp') (hs : Sm (fc', fp')) : Duo w0 w' N' M h g (Grew F w w') G fc' fp' gc gp :=
  ⟨hT, H.b.other hf (fun k hk h => H.ap k h hk), fun i hi hg => hi.elim (fun q => H.ap i q hg) (fun q => by have := (H.b.lt i hg).2; omega), hs, H.sb, H.fr.wide hf (fun i hi => .inl (H.a.lt i hi).1)⟩
theorem Duo.size (H : Duo w0 w N M h g F G fc fp gc gp) : w0.heap.size ≤ w.heap.size := H.fr.size
end
theorem ow_slot {w : World} {B : Nat} {e : TypeId} {sz : Nat} {n : Nat} {v : Value} {xs : List Value} (h : w.ownsRow B e sz v n xs) : ∃ a cap, v = .slice a n cap ∧ ∀ g, v.ownBlock = some g → B ≤ g ∧ g < w.heap.size := by
  obtain ⟨a, c, e⟩ := ow_sliceN h
  exact ⟨a, c, e, ow_lt h⟩
/-- what Channels, or Patterns, tells -/
def NamesC (w : World) (C : List ByteArray) (e : Ending) (w' : World) : Prop :=
  ∃ a c, e = .returned (.slice a C.length c) ∧ RdC w' 1 (.slice a C.length c) C.length (C.map .string) ∧ (∀ g, (Value.slice a C.length c).ownBlock = some g → w.heap.size ≤ g ∧ g < w'.heap.size) ∧ Fr (fun _ => False) w w'
theorem names_of {w w' : World} {l C : List ByteArray} {e : Ending} (h : RPriseS w l e w') (hC : sortS l = C) : NamesC w C e w' := by
  obtain ⟨v, rfl, hr, hb⟩ := h
  have hl : l.length = C.length := by rw [← hC, sortS_len]
  rw [hC, hl] at hr
  obtain ⟨a, c, rfl, hlow⟩ := ow_slot hr
  exact ⟨a, c, rfl, RdC.of_owns hr, hlow, (Fr.of_below hb).mono fun _ hi hk => absurd hk (by omega)⟩
section
variable {w : World} {B N h : Nat} {F : Nat → Prop} {fc fp : Int → List ByteArray}
theorem chan_any (H : HubT w B F N h fc fp) (s : Int) (hs : kI.ok s) {C : List ByteArray} (hC : sortS (fc s) = C) : Calls Tryz.prog 23 #[.pointer (some ⟨h, 0, none⟩), .int .i64 s] w (NamesC w C) :=
  (hubChannels_any H s hs).mono fun e w' hp => names_of hp hC
theorem patt_any (H : HubT w B F N h fc fp) (s : Int) (hs : kI.ok s) {C : List ByteArray} (hC : sortS (fp s) = C) : Calls Tryz.prog 24 #[.pointer (some ⟨h, 0, none⟩), .int .i64 s] w (NamesC w C) :=
  (hubPatterns_any H s hs).mono fun e w' hp => names_of hp hC
end
/-- the cells of an out -/
theorem out_at {w : World} {B : Nat} {a : Option Addr} {n c : Nat} {outs : List Ot} (h : OutsAt w B (.slice a n c) outs) (j : Nat) (hj : j < outs.length) :
    ∃ g off ua uc, a = some ⟨g, off, none⟩ ∧ w.cell? ⟨g, off + j * 5, none⟩ = some (.int .i64 outs[j].1) ∧ w.cell? ⟨g, off + j * 5 + 1, none⟩ = some (.int .i64 6) ∧ w.cell? ⟨g, off + j * 5 + 2, none⟩ = some (.string ⟨#[]⟩) ∧ w.cell? ⟨g, off + j * 5 + 3, none⟩ = some (.int .i64 0) ∧
      w.cell? ⟨g, off + j * 5 + 4, none⟩ = some (.slice ua outs[j].2.length uc) ∧ w.ownsRow B 49 4 (.slice ua outs[j].2.length uc) outs[j].2.length (outs[j].2.flatMap bulkC) := by
  obtain ⟨vals, h1, h2, h3⟩ := h
  have hz : (outs.zip vals).length = outs.length := by rw [List.length_zip]; omega
  have hr := RdC.of_owns h2
  obtain ⟨a', c', e⟩ := ow_sliceN h2
  cases e
  have hf := fun i hi => flat_atD outC 5 (fun _ => rfl) (outs.zip vals) j i (by omega) hi
  have he : (outs.zip vals)[j]'(by omega) = (outs[j], vals[j]'(by omega)) := by rw [List.getElem_zip]
  simp only [he] at hf
  have hp : 0 < ((outs.zip vals).flatMap outC).length := by
    have h0 := hf 0 (by decide)
    have h2 : (outC (outs[j], vals[j]'(by omega)))[0]? = some (.int .i64 outs[j].1) := rfl
    rw [h2] at h0
    have := (List.getElem?_eq_some_iff.1 h0).1
    omega
  obtain ⟨g, off, rfl, hc⟩ := hr.at hp
  have hu := h3 j outs[j] (vals[j]'(by omega)) (List.getElem?_eq_getElem hj) (List.getElem?_eq_getElem (by omega))
  obtain ⟨ua, uc, hue⟩ := ow_sliceN hu
  rw [hue] at hu
  refine ⟨g, off, ua, uc, rfl, hc (j * 5 + 0) _ (by rw [hf 0 (by decide)]; rfl), ?_, ?_, ?_, ?_, hu⟩
  · rw [Nat.add_assoc]; exact hc (j * 5 + 1) _ (by rw [hf 1 (by decide)]; rfl)
  · rw [Nat.add_assoc]; exact hc (j * 5 + 2) _ (by rw [hf 2 (by decide)]; rfl)
  · rw [Nat.add_assoc]; exact hc (j * 5 + 3) _ (by rw [hf 3 (by decide)]; rfl)
  · rw [Nat.add_assoc]; exact hc (j * 5 + 4) _ (by rw [hf 4 (by decide)]; show some (vals[j]'_) = _; rw [hue])
theorem out_slice {w : World} {B : Nat} {v : Value} {outs : List Ot} (h : OutsAt w B v outs) : ∃ a c, v = .slice a outs.length c ∧ ∀ g, v.ownBlock = some g → B ≤ g ∧ g < w.heap.size := by
  obtain ⟨vals, h1, h2, h3⟩ := h
  exact ow_slot h2
/-- what Tell tells -/
def TellC (w : World) (outs : List Ot) (e : Ending) (w' : World) : Prop := ∃ a c, e = .returned (.slice a outs.length c) ∧ OutsAt w' w.heap.size (.slice a outs.length c) outs ∧ Fr (fun _ => False) w w' ∧ outs.length ≤ 2199023255488
theorem tell_len {w : World} {B N h : Nat} {F : Nat → Prop} {X : HX} {fb : ByteArray → List Int} {fc fp : Int → List ByteArray} (H : HubX w B F N h X fb fc fp) (k text : ByteArray) : (tellL fb (X.pt.map (·.1)) fp k text).length ≤ N := by
  have h1 := H.told k
  have h2 := flat_tot (L := X.pt) (fp := fp) (sortI_perm (X.pt.map (·.1))) k text
  unfold tellL
  rw [List.length_append, List.length_map, sortI_len]
  have h3 : ((sortI (X.pt.map (·.1))).flatMap fun s => ((sortS (fp s)).filter fun p => gm p k).map fun p => (s, [⟨#[112, 109, 101, 115, 115, 97, 103, 101]⟩, p, k, text])).length ≤ tot X.pt fp := h2
  omega
/-- Tell, by the two rows alone -/
theorem tellT_any {w : World} {B N h : Nat} {F : Nat → Prop} {fc fp : Int → List ByteArray} (H : HubT w B F N h fc fp) (hN : N ≤ 2199023255488) (hs : Sm (fc, fp)) (k text : ByteArray) (hk : k.size < 4611686018427387904) {Z : List Int} (hZ : Z.Pairwise (· < ·)) (hz : Named (fc, fp) Z) :
    Calls Tryz.prog 19 #[.pointer (some ⟨h, 0, none⟩), .string k, .string text] w (TellC w (Z.flatMap (nameL fc k text) ++ Z.flatMap (patL fp k text))) := by
  obtain ⟨X, fb, H, ht⟩ := H
  have he : tellL fb (X.pt.map (·.1)) fp k text = Z.flatMap (nameL fc k text) ++ Z.flatMap (patL fp k text) := tell_split ht k text (H.b.nodup k) (fun s => H.c.nodup s) H.p.top.nodup hZ (fun s hs => by
    cases hk : lkp s X.pt with
    | none => exact absurd (H.p.no s hk) hs
    | some b => exact List.mem_map.2 ⟨_, look_mem hk, rfl⟩) hz.2 hz.1
  have hl := tell_len H k text
  rw [he] at hl
  refine (tell_any H ht hN k text hk (fun s p hp => by have := hs.2 s p hp; omega)).mono fun e w' ⟨v, h1, h2, h3⟩ => ?_
  rw [he] at h2
  obtain ⟨a, c, rfl, _⟩ := out_slice h2
  exact ⟨a, c, h1, h2, h3, by omega⟩
/-- Count, by the rows alone -/
theorem countT_any {w : World} {B N h : Nat} {F : Nat → Prop} {fc fp : Int → List ByteArray} (H : HubT w B F N h fc fp) (k text : ByteArray) (hk : k.size ≤ maxLen) {Z : List Int} (hZ : Z.Pairwise (· < ·)) (hz : Named (fc, fp) Z) :
    Calls Tryz.prog 21 #[.pointer (some ⟨h, 0, none⟩), .string k] w fun e w' => e = .returned (.int .i64 (Z.flatMap (nameL fc k text)).length) ∧ w = w' := by
  obtain ⟨X, fb, H, ht⟩ := H
  rw [tell_count ht k text (H.b.nodup k) (fun s => H.c.nodup s) hZ hz.1]
  exact hubCount_any H k hk
/-- a session that listens to nothing is told nothing -/
theorem tellApart_any {w : World} {B N h : Nat} {F : Nat → Prop} {fc fp : Int → List ByteArray} (H : HubT w B F N h fc fp) (hN : N ≤ 2199023255488) (hs : Sm (fc, fp)) (k text : ByteArray) (hk : k.size < 4611686018427387904) {s : Int} (h1 : fc s = []) (h2 : fp s = []) :
    Calls Tryz.prog 19 #[.pointer (some ⟨h, 0, none⟩), .string k, .string text] w fun e w' => ∃ outs, TellC w outs e w' ∧ ∀ o ∈ outs, o.1 ≠ s := by
  obtain ⟨X, fb, H, ht⟩ := H
  have hl := tell_len H k text
  refine (tell_any H ht hN k text hk (fun s p hp => by have := hs.2 s p hp; omega)).mono fun e w' ⟨v, q1, q2, q3⟩ => ?_
  obtain ⟨a, c, rfl, _⟩ := out_slice q2
  exact ⟨_, ⟨a, c, q1, q2, q3, by omega⟩, tell_apart ht h1 h2 k text⟩
end Go.Proofs.YtleoeccjnchclaaGreatDoor
namespace Go.Proofs.YtleoeccjnchclaaGreatDoor
open Go.RowKit
def rwC (r : Rw) : List Value := [.int .i64 r.1, .bool r.2.1, .string r.2.2]
theorem rwC_len (r : Rw) : (rwC r).length = 3 := rfl
/-- the document's hub, whose blocks are of F -/
structure RefH (w : World) (B : Nat) (F : Nat → Prop) (m : Nat) (v : Value) (R : List Rw) : Prop where
  blk : w.heap[m]? = some (.cells #[v] 37 (0, 0))
  row : w.ownsRow B 58 3 v R.length (R.flatMap rwC)
  fm : F m
  fv : ∀ g, v.ownBlock = some g → F g
  lt : ∀ k, F k → B ≤ k ∧ k < w.heap.size
section
variable {w w' : World} {B m : Nat} {F F' T : Nat → Prop} {v : Value} {R : List Rw}
theorem RefH.other (H : RefH w B F m v R) (hf : Fr T w w') (hd : ∀ k, F k → ¬ T k) : RefH w' B F m v R :=
  ⟨(hf.block m (H.lt m H.fm).2 (hd m H.fm)).trans H.blk, ow_frT H.row hf (fun g hg => hd g (H.fv g hg)), H.fm, H.fv, fun k hk => ⟨(H.lt k hk).1, Nat.lt_of_lt_of_le (H.lt k hk).2 hf.size⟩⟩
theorem RefH.quiet (H : RefH w B F m v R) (hf : Fr (fun _ => False) w w') : RefH w' B F m v R := H.other hf (fun _ _ h => h)
theorem RefH.cell (H : RefH w B F m v R) : w.cell? ⟨m, 0, none⟩ = some v := by rw [cell_of_blk H.blk]; rfl
theorem RefH.slot (H : RefH w B F m v R) : ∃ a c, v = .slice a R.length c := by
  obtain ⟨a, c, e, _⟩ := ow_slot H.row
  exact ⟨a, c, e⟩
theorem RefH.free (H : RefH w B F m v R) : w.frozen? ⟨m, 0, none⟩ = false := by simp [World.frozen?, H.blk]
end
/-- the cells of a row -/
theorem rw_at {w : World} {a : Option Addr} {n cap : Nat} {R : List Rw} (h : RdC w 3 (.slice a n cap) n (R.flatMap rwC)) (k : Nat) (hk : k < R.length) :
    ∃ g off, a = some ⟨g, off, none⟩ ∧ w.cell? ⟨g, off + k * 3, none⟩ = some (.int .i64 R[k].1) ∧ w.cell? ⟨g, off + k * 3 + 1, none⟩ = some (.bool R[k].2.1) ∧ w.cell? ⟨g, off + k * 3 + 2, none⟩ = some (.string R[k].2.2) := by
  have hf := fun j hj => flat_atD rwC 3 rwC_len R k j hk hj
  have hpos : 0 < (R.flatMap rwC).length := by
    have := hf 0 (by decide)
    have h2 : (rwC R[k])[0]? = some (.int .i64 R[k].1) := rfl
    rw [h2] at this
    have := (List.getElem?_eq_some_iff.1 this).1
    omega
  obtain ⟨g, off, rfl, hc⟩ := h.at hpos
  refine ⟨g, off, rfl, hc (k * 3 + 0) _ (by rw [hf 0 (by decide)]; rfl), ?_, ?_⟩
  · rw [Nat.add_assoc]; exact hc (k * 3 + 1) _ (by rw [hf 1 (by decide)]; rfl)
  · rw [Nat.add_assoc]; exact hc (k * 3 + 2) _ (by rw [hf 2 (by decide)]; rfl)
theorem refNew_any (w : World) : Calls Tryz.prog 5 #[] w fun e w' => ∃ m, e = .returned (.pointer (some ⟨m, 0, none⟩)) ∧ RefH w' w.heap.size (fun k => w.heap.size ≤ k ∧ k < w'.heap.size) m (.slice none 0 0) [] ∧ Fr (fun _ => False) w w' := by
  go_enter Tryz.func5, Tryz.ntmps5
  go_wp2
  go_ret
  exact ⟨w.heap.size, rfl, ⟨alloc_at w _, World.ownsRow_nil _ _ _ _, ⟨Nat.le_refl _, by simp⟩, (fun g hg => by cases hg), fun k hk => hk⟩, Fr.alloc _ _ _⟩
theorem flat_snocN {α : Type} (R : List Rw) (p : Rw → Bool) (f : Rw → α) (k : Nat) (hk : k < R.length) : ((R.take (k + 1)).filter p).map f = ((R.take k).filter p).map f ++ (if p R[k] then [f R[k]] else []) := by
  rw [List.take_succ_eq_append_getElem hk, List.filter_append, List.map_append]
  congr 1
  cases h : p R[k] <;> simp [h]
section
variable {w : World} {B m : Nat} {F : Nat → Prop} {v : Value} {R : List Rw}
set_option maxRecDepth 100000 in
set_option maxHeartbeats 2000000 in
theorem refSize_any (H : RefH w B F m v R) (hl : R.length ≤ 2199023255552) (s : Int) : Calls Tryz.prog 41 #[.pointer (some ⟨m, 0, none⟩), .int .i64 s] w fun e w' => e = .returned (.int .i64 (R.filter (ofS s)).length) ∧ Fr (fun _ => False) w w' := by
  have c0 := H.cell
  obtain ⟨a, c, rfl⟩ := H.slot
  have HR := Lib.hid (RdC.of_owns H.row)
  clear H
  go_enter Tryz.func41, Tryz.ntmps41
  go_wp2
  go_loopw [5, 15] (fun nv i wr => ∃ k n : Nat, i = .int .i64 k ∧ k ≤ R.length ∧ nv = .int .i64 n ∧ n ≤ k ∧ Hid (n = ((R.take k).filter (ofS s)).length) ∧ Hid (Fr (fun _ => False) w wr)) (fun _ i _ => R.length - (intOf i).toNat)
  case atStart => exact ⟨0, 0, rfl, by omega, rfl, by omega, (show 0 = _ by simp), Fr.refl _ _⟩
  case round =>
    obtain ⟨k, n, rfl, hk, rfl, hn, HN, HF⟩ := hrel
    obtain ⟨wo, rfl⟩ : ∃ x, x = wr := ⟨_, rfl⟩
    by_cases hlt : k < R.length
    · obtain ⟨g, off, rfl, x0, x1, x2⟩ := rw_at (HR.out.fr HF.out (fun _ _ h => h)) k hlt
      have hs := take_filter_succ R (ofS s) k hlt
      obtain ⟨r, hr⟩ : ∃ r, R[k] = r := ⟨_, rfl⟩
      rw [hr] at x0 x1 x2 hs
      obtain ⟨rs, rl, rn⟩ := r
      dsimp only at x0 x1 x2
      have b0 : (0 : Int) ≤ (k : Int) := by omega
      have b1 : (k : Int) < (R.length : Int) := by omega
      by_cases e : rs = s
      · have hq : (rs == s) = true := by simpa using e
        have HN2 : Hid (n + 1 = ((R.take (k + 1)).filter (ofS s)).length) := by
          show _ = _
          rw [hs, ← HN.out, show ofS s (rs, rl, rn) = true by unfold ofS; simpa using e]; rfl
        clear hs hr e
        go_wp2
        go_roundw
        case rel => exact ⟨k + 1, n + 1, by go_num, by omega, by go_num, by omega, HN2, HF.out.thenAlloc _⟩
        case measure => simp [intOf]; omega
      · have hq : (rs == s) = false := by simpa using e
        have HN2 : Hid (n = ((R.take (k + 1)).filter (ofS s)).length) := by
          show _ = _
          rw [hs, ← HN.out, show ofS s (rs, rl, rn) = false by unfold ofS; simpa using e]; rfl
        clear hs hr e
        go_wp2
        go_roundw
        case rel => exact ⟨k + 1, n, by go_num, by omega, rfl, by omega, HN2, HF.out.thenAlloc _⟩
        case measure => simp [intOf]; omega
    · obtain rfl : k = R.length := by omega
      have hn2 := HN.out
      rw [List.take_length] at hn2
      have HN2 := Lib.hid hn2
      clear hn2
      go_wp2
      go_ret
      exact ⟨by rw [HN2.out]; rfl, HF.out⟩
/-- of a name, not a pattern -/
def ofK (k : ByteArray) (r : Rw) : Bool := !r.2.1 && decide (r.2.2 = k)
set_option maxRecDepth 100000 in
set_option maxHeartbeats 2000000 in
theorem refCount_any (H : RefH w B F m v R) (hl : R.length ≤ 2199023255552) (s : ByteArray) : Calls Tryz.prog 22 #[.pointer (some ⟨m, 0, none⟩), .string s] w fun e w' => e = .returned (.int .i64 (R.filter (ofK s)).length) ∧ Fr (fun _ => False) w w' := by
  have c0 := H.cell
  obtain ⟨a, c, rfl⟩ := H.slot
  have HR := Lib.hid (RdC.of_owns H.row)
  clear H
  go_enter Tryz.func22, Tryz.ntmps22
  go_wp2
  go_loopw [5, 15] (fun nv i wr => ∃ k n : Nat, i = .int .i64 k ∧ k ≤ R.length ∧ nv = .int .i64 n ∧ n ≤ k ∧ Hid (n = ((R.take k).filter (ofK s)).length) ∧ Hid (Fr (fun _ => False) w wr)) (fun _ i _ => R.length - (intOf i).toNat)
  case atStart => exact ⟨0, 0, rfl, by omega, rfl, by omega, (show 0 = _ by simp), Fr.refl _ _⟩
  case round =>
    obtain ⟨k, n, rfl, hk, rfl, hn, HN, HF⟩ := hrel
    obtain ⟨wo, rfl⟩ : ∃ x, x = wr := ⟨_, rfl⟩
    by_cases hlt : k < R.length
    · obtain ⟨g, off, rfl, x0, x1, x2⟩ := rw_at (HR.out.fr HF.out (fun _ _ h => h)) k hlt
      have hs := take_filter_succ R (ofK s) k hlt
      obtain ⟨r, hr⟩ : ∃ r, R[k] = r := ⟨_, rfl⟩
      rw [hr] at x0 x1 x2 hs
      obtain ⟨rs, rl, rn⟩ := r
      dsimp only at x0 x1 x2
      have b0 : (0 : Int) ≤ (k : Int) := by omega
      have b1 : (k : Int) < (R.length : Int) := by omega
      have hq : (rn.toList == s.toList) = decide (rn = s) := str_beq _ _
      obtain ⟨b, hb⟩ : ∃ b, decide (rn = s) = b := ⟨_, rfl⟩
      have ho : ofK s (rs, rl, rn) = (!rl && b) := by unfold ofK; rw [← hb]
      rw [ho] at hs
      rw [hb] at hq
      cases rl with
      | true =>
        have HN2 : Hid (n = ((R.take (k + 1)).filter (ofK s)).length) := by show _ = _; rw [hs, ← HN.out]; rfl
        clear hs hr ho hb
        go_wp2
        go_roundw
        case rel => exact ⟨k + 1, n, by go_num, by omega, rfl, by omega, HN2, HF.out.thenAlloc _⟩
        case measure => simp [intOf]; omega
      | false =>
        cases b with
        | true =>
          have HN2 : Hid (n + 1 = ((R.take (k + 1)).filter (ofK s)).length) := by show _ = _; rw [hs, ← HN.out]; rfl
          clear hs hr ho hb
          go_wp2
          go_roundw
          case rel => exact ⟨k + 1, n + 1, by go_num, by omega, by go_num, by omega, HN2, HF.out.thenAlloc _⟩
          case measure => simp [intOf]; omega
        | false =>
          have HN2 : Hid (n = ((R.take (k + 1)).filter (ofK s)).length) := by show _ = _; rw [hs, ← HN.out]; rfl
          clear hs hr ho hb
          go_wp2
          go_roundw
          case rel => exact ⟨k + 1, n, by go_num, by omega, rfl, by omega, HN2, HF.out.thenAlloc _⟩
          case measure => simp [intOf]; omega
    · obtain rfl : k = R.length := by omega
      have hn2 := HN.out
      rw [List.take_length] at hn2
      have HN2 := Lib.hid hn2
      clear hn2
      go_wp2
      go_ret
      exact ⟨by rw [HN2.out]; rfl, HF.out⟩
end
/-- one stands ahead of another, as the document tells it -/
def aheadB (a b : Rw) : Bool := if a.2.1 != b.2.1 then b.2.1 else if a.1 != b.1 then decide (a.1 < b.1) else Op.bytesLess a.2.2.toList b.2.2.toList
theorem aheadB_iff (a b : Rw) : aheadB a b = true ↔ ahd a b := by
  obtain ⟨s, x, k⟩ := a
  obtain ⟨t, y, n⟩ := b
  unfold aheadB ahd
  dsimp only
  by_cases e : x = y
  · subst e
    rw [if_neg (by simp)]
    by_cases e2 : s = t
    · subst e2
      rw [if_neg (by simp), bytesLess_eq, decide_eq_true_eq]
      constructor
      · intro h; exact .inr ⟨rfl, .inr ⟨rfl, h⟩⟩
      · rintro (⟨h1, h2⟩ | ⟨_, h | ⟨_, h⟩⟩)
        · rw [h1] at h2; cases h2
        · omega
        · exact h
    · rw [if_pos (by simpa using e2), decide_eq_true_eq]
      constructor
      · intro h; exact .inr ⟨rfl, .inl h⟩
      · rintro (⟨h1, h2⟩ | ⟨_, h | ⟨h, _⟩⟩)
        · rw [h1] at h2; cases h2
        · exact h
        · exact absurd h e2
  · rw [if_pos (by simpa using e)]
    constructor
    · intro h
      subst h
      exact .inl ⟨by simpa using e, rfl⟩
    · rintro (⟨_, h⟩ | ⟨h, _⟩)
      · exact h
      · exact absurd h e
theorem ahead_any (a b : Rw) (w : World) : Calls Tryz.prog 42 #[.agg #[.int .i64 a.1, .bool a.2.1, .string a.2.2], .agg #[.int .i64 b.1, .bool b.2.1, .string b.2.2]] w fun e w' => e = .returned (.bool (aheadB a b)) ∧ Fr (fun _ => False) w w' := by
  obtain ⟨s, x, k⟩ := a
  obtain ⟨t, y, n⟩ := b
  unfold aheadB
  dsimp only
  by_cases e : x = y
  · subst e
    have h1 : (x != x) = false := by simp
    rw [h1]
    by_cases e2 : s = t
    · subst e2
      have h2 : (s != s) = false := by simp
      rw [h2]
      go_enter Tryz.func42, Tryz.ntmps42
      go_wp2
      go_ret
      exact ⟨rfl, (Fr.alloc _ _ _).thenAlloc _⟩
    · have h2 : (s != t) = true := by simpa using e2
      rw [h2]
      clear e2
      go_enter Tryz.func42, Tryz.ntmps42
      go_wp2
      go_ret
      exact ⟨rfl, (Fr.alloc _ _ _).thenAlloc _⟩
  · cases x with
    | true =>
      cases y with
      | true => exact absurd rfl e
      | false =>
        clear e
        go_enter Tryz.func42, Tryz.ntmps42
        go_wp2
        go_ret
        exact ⟨rfl, (Fr.alloc _ _ _).thenAlloc _⟩
    | false =>
      cases y with
      | false => exact absurd rfl e
      | true =>
        clear e
        go_enter Tryz.func42, Tryz.ntmps42
        go_wp2
        go_ret
        exact ⟨rfl, (Fr.alloc _ _ _).thenAlloc _⟩
end Go.Proofs.YtleoeccjnchclaaGreatDoor
namespace Go.Proofs.YtleoeccjnchclaaGreatDoor
open Go.RowKit
theorem info_row : (Tryz.prog.info? 58).map (fun i => (i.zero, i.size, i.bytes)) = some (some (.agg #[.int .i64 0, .bool false, .string ⟨#[]⟩]), 3, 32) := by kernel_rfl
theorem info_strR : (Tryz.prog.info? 9).map (fun i => (i.zero, i.size, i.bytes)) = some (some (.string ⟨#[]⟩), 1, 16) := by kernel_rfl
theorem RefH.store {w w8 : World} {B m : Nat} {F : Nat → Prop} {v v8 : Value} {R R8 : List Rw} (H : RefH w B F m v R) (hB : B ≤ w.heap.size) (hf : Fr (fun _ => False) w w8) (ho : w8.ownsRow w.heap.size 58 3 v8 R8.length (R8.flatMap rwC)) :
    RefH (w8.setCell ⟨m, 0, none⟩ v8) B (Grew F w (w8.setCell ⟨m, 0, none⟩ v8)) m v8 R8 ∧ Fr F w (w8.setCell ⟨m, 0, none⟩ v8) := by
  have hs := Fr.setCell w8 ⟨m, 0, none⟩ v8
  have hm := H.lt m H.fm
  have hb8 : w8.heap[m]? = some (.cells #[v] 37 (0, 0)) := (hf.block m hm.2 (fun h => h)).trans H.blk
  have hlow := ow_lt ho
  have hF : Fr F w (w8.setCell ⟨m, 0, none⟩ v8) := (hf.mono (T := F) (fun _ h _ => h.elim)).trans hs (fun i hi _ => by have hi : i = m := hi; rw [hi]; exact H.fm)
  refine ⟨⟨?_, ow_baseT (ow_frT ho hs (fun g hg e => by have := (hlow g hg).1; have e : g = m := e; omega)) hB, .inl H.fm, fun g hg => .inr ⟨(hlow g hg).1, by have := (hlow g hg).2; have := hs.size; omega⟩, grew_lt H.lt hB hF.size⟩, hF⟩
  rw [heap_setCell_same _ _ 0 _ _ v8 hb8]
  rfl
theorem RefH.later {w w8 w' : World} {B m : Nat} {F : Nat → Prop} {v : Value} {R : List Rw} (H : RefH w8 B (Grew F w w8) m v R) (hf : Fr (fun _ => False) w8 w') : RefH w' B (Grew F w w') m v R := by
  have h := H.quiet hf
  refine ⟨h.blk, h.row, h.fm.imp id (fun q => ⟨q.1, Nat.lt_of_lt_of_le q.2 hf.size⟩), fun g hg => (h.fv g hg).imp id (fun q => ⟨q.1, Nat.lt_of_lt_of_le q.2 hf.size⟩), fun k hk => ?_⟩
  rcases hk with hk | hk
  · exact h.lt k (.inl hk)
  · by_cases e : k < w8.heap.size
    · exact h.lt k (.inr ⟨hk.1, e⟩)
    · refine ⟨?_, hk.2⟩
      have := (h.lt m h.fm).1
      have := (H.lt m H.fm)
      omega
/-- a list that was just written, behind another block -/
theorem lit_two (wo : World) (o : Obj) (xs : Array Value) (e : TypeId) (sz : Nat) (h : xs.size = 1 * sz) : RdC ((wo.alloc o).alloc (.cells xs e)) sz (.slice (some ⟨wo.heap.size + 1, 0, none⟩) 1 1) 1 xs.toList := by
  have h1 := RdC.of_owns (World.ownsRow_lit (base := 0) (e := e) (size := sz) (wo.alloc o) xs 1 (Nat.zero_le _) (by decide) h)
  rw [World.size_alloc] at h1
  exact h1
/-- a row in a new list -/
theorem strs_one (l : List ByteArray) : ∀ u ∈ l.map Value.string, u.oneCell' = true := fun u hu => by
  obtain ⟨x, _, rfl⟩ := List.mem_map.1 hu
  rfl
section
variable {w : World} {B m : Nat} {F : Nat → Prop} {v : Value} {R : List Rw}
set_option maxRecDepth 100000 in
set_option maxHeartbeats 4000000 in
theorem refNames_any (H : RefH w B F m v R) (hl : R.length ≤ 2199023255552) (s : Int) (like : Bool) : Calls Tryz.prog 40 #[.pointer (some ⟨m, 0, none⟩), .int .i64 s, .bool like] w (NamesC w ((R.filter (ofSL s like)).map fun r => r.2.2)) := by
  have c0 := H.cell
  obtain ⟨a, c, rfl⟩ := H.slot
  have HR := Lib.hid (RdC.of_owns H.row)
  obtain ⟨i0, hi, hz0, hz1, hz2⟩ := info_parts info_strR
  have HI := Lib.hid hi
  have HZ0 := Lib.hid hz0
  have HZ1 := Lib.hid hz1
  have HZ2 := Lib.hid hz2
  clear H hi hz0 hz1 hz2
  go_enter Tryz.func40, Tryz.ntmps40
  go_wp2
  go_loopw [7, 17] (fun nv i wr => ∃ (k n : Nat), i = .int .i64 k ∧ k ≤ R.length ∧ n ≤ k ∧ Hid (n = (((R.take k).filter (ofSL s like)).map fun r => r.2.2).length) ∧ Hid (wr.ownsRow w.heap.size 9 1 nv n ((((R.take k).filter (ofSL s like)).map fun r => r.2.2).map .string)) ∧ Hid (Fr (fun _ => False) w wr)) (fun _ i _ => R.length - (intOf i).toNat)
  case atStart => exact ⟨0, 0, rfl, by omega, by omega, (show 0 = _ by simp), (by show World.ownsRow _ _ _ _ _ _ _; rw [List.take_zero, List.filter_nil, List.map_nil, List.map_nil]; exact World.ownsRow_nil _ _ _ _), Fr.refl _ _⟩
  case round =>
    obtain ⟨k, n, rfl, hk, hn, HN, HO, HF⟩ := hrel
    obtain ⟨wo, rfl⟩ : ∃ x, x = wr := ⟨_, rfl⟩
    obtain ⟨nv, rfl⟩ : ∃ x, x = u7 := ⟨_, rfl⟩
    obtain ⟨na, nc, rfl, -⟩ := ow_slot HO.out
    by_cases hlt : k < R.length
    · obtain ⟨g, off, rfl, x0, x1, x2⟩ := rw_at (HR.out.fr HF.out (fun _ _ h => h)) k hlt
      have hs := flat_snocN R (ofSL s like) (fun r => r.2.2) k hlt
      obtain ⟨r, hr⟩ : ∃ r, R[k] = r := ⟨_, rfl⟩
      rw [hr] at x0 x1 x2 hs
      obtain ⟨rs, rl, rn⟩ := r
      dsimp only at x0 x1 x2 hs
      have HS := Lib.hid hs
      have b0 : (0 : Int) ≤ (k : Int) := by omega
      have b1 : (k : Int) < (R.length : Int) := by omega
      clear hr hs
      go_upto_region 7 with (fail)
      go_cut [30] from 21 to 30 (fun t wc => wc = wo.alloc (.cells #[.int .i64 rs, .bool rl, .string rn] 58) ∧ t = .bool (ofSL s like (rs, rl, rn)))
      case first =>
        by_cases e : rs = s
        · have hq : (rs == s) = true := by simpa using e
          have ho : ofSL s like (rs, rl, rn) = (rl == like) := by unfold ofSL; rw [decide_eq_true e]; rfl
          have HOF := Lib.hid ho
          clear ho e
          cases rl <;> cases like
          all_goals
            go_wp2
            go_meet
            case rel => exact ⟨rfl, by rw [HOF.out]; rfl⟩
        · have hq : (rs == s) = false := by simpa using e
          have ho : ofSL s like (rs, rl, rn) = false := by unfold ofSL; rw [decide_eq_false e]; rfl
          have HOF := Lib.hid ho
          clear ho e
          go_wp2
          go_meet
          case rel => exact ⟨rfl, by rw [HOF.out]⟩
      case rest =>
      obtain ⟨rfl, rfl⟩ := hcut
      have HF2 := Lib.hid (HF.out.thenAlloc (.cells #[.int .i64 rs, .bool rl, .string rn] 58))
      cases hb : ofSL s like (rs, rl, rn) with
      | false =>
        have hs2 := HS.out
        rw [hb, if_neg (by decide), List.append_nil] at hs2
        have HN2 : Hid (n = (((R.take (k + 1)).filter (ofSL s like)).map fun r => r.2.2).length) := by show _ = _; rw [hs2]; exact HN.out
        have HO2 : Hid ((wo.alloc (.cells #[.int .i64 rs, .bool rl, .string rn] 58)).ownsRow w.heap.size 9 1 (.slice na n nc) n ((((R.take (k + 1)).filter (ofSL s like)).map fun r => r.2.2).map .string)) := by show World.ownsRow _ _ _ _ _ _ _; rw [hs2]; exact HO.out.alloc _
        clear hs2 hb
        go_wp2
        go_roundw
        case rel => exact ⟨k + 1, n, by go_num, by omega, by omega, HN2, HO2, HF2⟩
        case measure => simp [intOf]; omega
      | true =>
        have hs2 := HS.out
        rw [hb, if_pos rfl] at hs2
        have HN2 : Hid (n + 1 = (((R.take (k + 1)).filter (ofSL s like)).map fun r => r.2.2).length) := by show _ = _; rw [hs2, List.length_append, ← HN.out]; rfl
        have HS2 := Lib.hid hs2
        have hbs : w.heap.size ≤ wo.heap.size := HF.out.size
        have HW := Lib.hid (ow_lt HO.out)
        clear hs2 hb
        go_wp2_with (at_builtin; go_must (refine wpl_append rfl (.tmp 31) (.tmp 34) 53 rfl w.heap.size 9 i0 (.string ⟨#[]⟩) 1 16 Tryz.underlying53 HI.out HZ0.out HZ1.out HZ2.out rfl (by decide) (.slice na n nc) n _ rfl ((HO.out.alloc _).alloc _) _ 1 [.string rn] rfl (lit_two wo (.cells #[.int .i64 rs, .bool rl, .string rn] 58) #[.string rn] 9 1 rfl) (by simp [Value.oneCell']) (by unfold maxLen; omega) (by omega) (by simp only [World.size_alloc]; omega) ?_); intro v8 w8 hown hgrow; have HO8 := Lib.hid hown; have HG8 := Lib.hid hgrow; clear hown hgrow)
        have HO9 : Hid (w8.ownsRow w.heap.size 9 1 v8 (n + 1) ((((R.take (k + 1)).filter (ofSL s like)).map fun r => r.2.2).map .string)) := by
          show World.ownsRow _ _ _ _ _ _ _
          rw [HS2.out, List.map_append]
          exact HO8.out
        have HF9 : Hid (Fr (fun _ => False) w w8) := (HF2.out.thenAlloc _).wide (Fr.of_grownBy HG8.out) (fun i hi => .inr (HW.out i hi).1)
        go_roundw
        case rel => exact ⟨k + 1, n + 1, by go_num, by omega, by omega, HN2, HO9, HF9⟩
        case measure => simp [intOf]; omega
    · obtain rfl : k = R.length := by omega
      have hn2 := HN.out
      have ho2 := HO.out
      rw [List.take_length] at hn2 ho2
      rw [hn2] at ho2
      obtain ⟨_, _, e, hlow⟩ := ow_slot ho2
      subst hn2
      have HEND : Hid (RdC wo 1 (.slice na (((R.filter (ofSL s like)).map fun r => r.2.2).length) nc) (((R.filter (ofSL s like)).map fun r => r.2.2).length) (((R.filter (ofSL s like)).map fun r => r.2.2).map .string) ∧ ∀ g, (Value.slice na (((R.filter (ofSL s like)).map fun r => r.2.2).length) nc).ownBlock = some g → w.heap.size ≤ g ∧ g < wo.heap.size) := ⟨RdC.of_owns ho2, hlow⟩
      clear ho2 e hlow
      go_wp2
      go_ret
      exact ⟨na, nc, rfl, HEND.out.1, HEND.out.2, HF.out⟩
theorem refChannels_any (H : RefH w B F m v R) (hl : R.length ≤ 2199023255552) (s : Int) : Calls Tryz.prog 26 #[.pointer (some ⟨m, 0, none⟩), .int .i64 s] w (NamesC w ((R.filter (ofSL s false)).map fun r => r.2.2)) := by
  have HC := Lib.hid (refNames_any H hl s false)
  obtain ⟨C, hC⟩ : ∃ C, ((R.filter (ofSL s false)).map fun r => r.2.2) = C := ⟨_, rfl⟩
  rw [hC] at HC ⊢
  clear H hC
  go_enter Tryz.func26, Tryz.ntmps26
  go_wp2_with fail
  refine HC.out.mono ?_
  rintro e w1 ⟨a, c, rfl, h1, h2, h3⟩
  have HG := Lib.hid (And.intro h1 (And.intro h2 h3))
  clear h1 h2 h3
  go_wp2_with fail
  go_ret
  exact ⟨a, c, rfl, HG.out⟩
theorem refPatterns_any (H : RefH w B F m v R) (hl : R.length ≤ 2199023255552) (s : Int) : Calls Tryz.prog 27 #[.pointer (some ⟨m, 0, none⟩), .int .i64 s] w (NamesC w ((R.filter (ofSL s true)).map fun r => r.2.2)) := by
  have HC := Lib.hid (refNames_any H hl s true)
  obtain ⟨C, hC⟩ : ∃ C, ((R.filter (ofSL s true)).map fun r => r.2.2) = C := ⟨_, rfl⟩
  rw [hC] at HC ⊢
  clear H hC
  go_enter Tryz.func27, Tryz.ntmps27
  go_wp2_with fail
  refine HC.out.mono ?_
  rintro e w1 ⟨a, c, rfl, h1, h2, h3⟩
  have HG := Lib.hid (And.intro h1 (And.intro h2 h3))
  clear h1 h2 h3
  go_wp2_with fail
  go_ret
  exact ⟨a, c, rfl, HG.out⟩
end
end Go.Proofs.YtleoeccjnchclaaGreatDoor
namespace Go.Proofs.YtleoeccjnchclaaGreatDoor
open Go.RowKit
theorem flat_snocR (R : List Rw) (p : Rw → Bool) (k : Nat) (hk : k < R.length) : (R.take (k + 1)).filter p = (R.take k).filter p ++ (if p R[k] then [R[k]] else []) := by
  rw [List.take_succ_eq_append_getElem hk, List.filter_append]
  congr 1
  cases h : p R[k] <;> simp [h]
/-- another row than this -/
def notX (x : Rw) (r : Rw) : Bool := decide (r ≠ x)
section
variable {w : World} {B m : Nat} {F : Nat → Prop} {v : Value} {R : List Rw}
set_option maxRecDepth 100000 in
set_option maxHeartbeats 4000000 in
theorem refLeave0_any (H : RefH w B F m v R) (hB : B ≤ w.heap.size) (hl : R.length ≤ 2199023255552) (x : Rw) :
    Calls Tryz.prog 30 #[.pointer (some ⟨m, 0, none⟩), .agg #[.int .i64 x.1, .bool x.2.1, .string x.2.2]] w fun e w' => e = .returned (.int .i64 (((R.filter (notX x)).filter (ofS x.1)).length)) ∧ Fr F w w' ∧ ∃ v', RefH w' B (Grew F w w') m v' (R.filter (notX x)) := by
  obtain ⟨s, l, q⟩ := x
  obtain ⟨nn, hnn⟩ : ∃ nn, ((R.filter (notX (s, l, q))).filter (ofS s)).length = nn := ⟨_, rfl⟩
  have HNN := Lib.hid hnn
  rw [show ((R.filter (notX (s, l, q))).filter (ofS (s, l, q).1)).length = nn from hnn]
  clear hnn
  obtain ⟨i0, hi, hz0, hz1, hz2⟩ := info_parts info_row
  have HI := Lib.hid hi
  have HZ0 := Lib.hid hz0
  have HZ1 := Lib.hid hz1
  have HZ2 := Lib.hid hz2
  obtain ⟨w1, hw1⟩ : ∃ x, w.alloc (.cells #[.int .i64 s, .bool l, .string q] 58) = x := ⟨_, rfl⟩
  have hq1 : Fr (fun _ => False) w w1 := by rw [← hw1]; exact Fr.alloc _ _ _
  have hblk : w1.heap[w.heap.size]? = some (.cells #[.int .i64 s, .bool l, .string q] 58 (0, 0)) := by rw [← hw1]; exact alloc_at w _
  have H1 := H.quiet hq1
  have c0 := H1.cell
  obtain ⟨a, c, rfl⟩ := H.slot
  have y0 : w1.cell? ⟨w.heap.size, 0, none⟩ = some (.int .i64 s) := cell_of_blk hblk 0
  have y1 : w1.cell? ⟨w.heap.size, 1, none⟩ = some (.bool l) := cell_of_blk hblk 1
  have y2 : w1.cell? ⟨w.heap.size, 2, none⟩ = some (.string q) := cell_of_blk hblk 2
  have HR := Lib.hid (RdC.of_owns H1.row)
  have HH := Lib.hid H
  have HLT : Hid (w.heap.size < w1.heap.size) := (Array.getElem?_eq_some_iff.1 hblk).1
  have HQ1 := Lib.hid hq1
  have HW1 := Lib.hid hw1
  clear H H1 hi hz0 hz1 hz2 hq1 hblk hw1
  go_enter Tryz.func30, Tryz.ntmps30
  go_upto_region 1 with (fail)
  rw [HW1.out]
  go_wp2
  go_loopw [5, 15] (fun nv i wr => ∃ (k n : Nat), i = .int .i64 k ∧ k ≤ R.length ∧ n ≤ k ∧ Hid (n = ((R.take k).filter (notX (s, l, q))).length) ∧ Hid (wr.ownsRow w1.heap.size 58 3 nv n (((R.take k).filter (notX (s, l, q))).flatMap rwC)) ∧ Hid (Fr (fun _ => False) w1 wr)) (fun _ i _ => R.length - (intOf i).toNat)
  case atStart => exact ⟨0, 0, rfl, by omega, by omega, (show 0 = _ by simp), (by show World.ownsRow _ _ _ _ _ _ _; rw [List.take_zero, List.filter_nil, List.flatMap_nil]; exact World.ownsRow_nil _ _ _ _), Fr.refl _ _⟩
  case round =>
    obtain ⟨k, n, rfl, hk, hn, HN, HO, HF⟩ := hrel
    obtain ⟨wo, rfl⟩ : ∃ x, x = wr := ⟨_, rfl⟩
    obtain ⟨nv, rfl⟩ : ∃ x, x = u5 := ⟨_, rfl⟩
    obtain ⟨na, nc, rfl, -⟩ := ow_slot HO.out
    by_cases hlt : k < R.length
    · obtain ⟨g, off, rfl, x0, x1, x2⟩ := rw_at (HR.out.fr HF.out (fun _ _ h => h)) k hlt
      have hs := flat_snocR R (notX (s, l, q)) k hlt
      obtain ⟨r, hr⟩ : ∃ r, R[k] = r := ⟨_, rfl⟩
      rw [hr] at x0 x1 x2 hs
      obtain ⟨rs, rl, rn⟩ := r
      dsimp only at x0 x1 x2 hs
      have HS := Lib.hid hs
      have b0 : (0 : Int) ≤ (k : Int) := by omega
      have b1 : (k : Int) < (R.length : Int) := by omega
      have hws : w.heap.size < wo.heap.size := Nat.lt_of_lt_of_le HLT.out HF.out.size
      have hwn : ¬ w.heap.size = wo.heap.size := by omega
      have z0 := HF.out.cell y0 (fun h => h)
      have z1 := HF.out.cell y1 (fun h => h)
      have z2 := HF.out.cell y2 (fun h => h)
      clear hr hs
      go_upto_region 7 with (fail)
      go_cut [21] from 19 to 21 (fun t wc => wc = wo.alloc (.cells #[.int .i64 rs, .bool rl, .string rn] 58) ∧ t = .bool (notX (s, l, q) (rs, rl, rn)))
      case first =>
        by_cases e1 : rs = s
        · by_cases e2 : rl = l
          · by_cases e3 : rn = q
            · have HOF : Hid (notX (s, l, q) (rs, rl, rn) = false) := by show _ = _; unfold notX; rw [e1, e2, e3]; simp
              subst e1 e2 e3
              go_wp2
              go_meet
              case rel => exact ⟨rfl, by rw [HOF.out]⟩
            · have HOF : Hid (notX (s, l, q) (rs, rl, rn) = true) := by show _ = _; unfold notX; simp [e3]
              subst e1 e2
              have hq : (rn.toList == q.toList) = false := by rw [str_beq]; simpa using e3
              go_wp2
              go_meet
              case rel => exact ⟨rfl, by rw [HOF.out]⟩
          · have HOF : Hid (notX (s, l, q) (rs, rl, rn) = true) := by show _ = _; unfold notX; simp [e2]
            subst e1
            cases rl <;> cases l
            all_goals
              first
              | exact absurd rfl e2
              | (go_wp2
                 go_meet
                 case rel => exact ⟨rfl, by rw [HOF.out]⟩)
        · have HOF : Hid (notX (s, l, q) (rs, rl, rn) = true) := by show _ = _; unfold notX; simp [e1]
          have hq : (rs == s) = false := by simpa using e1
          go_wp2
          go_meet
          case rel => exact ⟨rfl, by rw [HOF.out]⟩
      case rest =>
      obtain ⟨rfl, rfl⟩ := hcut
      have HF2 := Lib.hid (HF.out.thenAlloc (.cells #[.int .i64 rs, .bool rl, .string rn] 58))
      cases hb : notX (s, l, q) (rs, rl, rn) with
      | false =>
        have hs2 := HS.out
        rw [hb, if_neg (by decide), List.append_nil] at hs2
        have HN2 : Hid (n = ((R.take (k + 1)).filter (notX (s, l, q))).length) := by show _ = _; rw [hs2]; exact HN.out
        have HO2 : Hid ((wo.alloc (.cells #[.int .i64 rs, .bool rl, .string rn] 58)).ownsRow w1.heap.size 58 3 (.slice na n nc) n (((R.take (k + 1)).filter (notX (s, l, q))).flatMap rwC)) := by show World.ownsRow _ _ _ _ _ _ _; rw [hs2]; exact HO.out.alloc _
        clear hs2 hb
        go_wp2
        go_roundw
        case rel => exact ⟨k + 1, n, by go_num, by omega, by omega, HN2, HO2, HF2⟩
        case measure => simp [intOf]; omega
      | true =>
        have hs2 := HS.out
        rw [hb, if_pos rfl] at hs2
        have HN2 : Hid (n + 1 = ((R.take (k + 1)).filter (notX (s, l, q))).length) := by show _ = _; rw [hs2, List.length_append, ← HN.out]; rfl
        have HS2 := Lib.hid hs2
        have hbs : w1.heap.size ≤ wo.heap.size := HF.out.size
        have HW := Lib.hid (ow_lt HO.out)
        clear hs2 hb
        go_wp2_with (at_builtin; refine wpl_append rfl (.tmp 22) (.tmp 24) 35 rfl w1.heap.size 58 i0 (.agg #[.int .i64 0, .bool false, .string ⟨#[]⟩]) 3 32 Tryz.underlying35 HI.out HZ0.out HZ1.out HZ2.out rfl (by decide) (.slice na n nc) n _ rfl ((HO.out.alloc _).alloc _) _ 1 [.int .i64 rs, .bool rl, .string rn] rfl (lit_two wo (.cells #[.int .i64 rs, .bool rl, .string rn] 58) #[.int .i64 rs, .bool rl, .string rn] 58 3 rfl) (by simp [Value.oneCell']) (by unfold maxLen; omega) (by omega) (by simp only [World.size_alloc]; omega) ?_; intro v8 w8 hown hgrow; have HO8 := Lib.hid hown; have HG8 := Lib.hid hgrow; clear hown hgrow)
        have HO9 : Hid (w8.ownsRow w1.heap.size 58 3 v8 (n + 1) (((R.take (k + 1)).filter (notX (s, l, q))).flatMap rwC)) := by
          show World.ownsRow _ _ _ _ _ _ _
          rw [HS2.out, List.flatMap_append]
          exact HO8.out
        have HF9 : Hid (Fr (fun _ => False) w1 w8) := (HF2.out.thenAlloc _).wide (Fr.of_grownBy HG8.out) (fun i hi => .inr (HW.out i hi).1)
        go_roundw
        case rel => exact ⟨k + 1, n + 1, by go_num, by omega, by omega, HN2, HO9, HF9⟩
        case measure => simp [intOf]; omega
    · obtain rfl : k = R.length := by omega
      have hn2 := HN.out
      have ho2 := HO.out
      rw [List.take_length] at hn2 ho2
      subst hn2
      have hq : Fr (fun _ => False) w wo := HQ1.out.wide HF.out (fun _ h => h.elim)
      have hW := HH.out.quiet hq
      have cm := hW.cell
      have fm := hW.free
      have hmn : ¬ w.heap.size = m := by have := (HH.out.lt m HH.out.fm).2; omega
      have z0 := HF.out.cell y0 (fun h => h)
      obtain ⟨hst, hfs⟩ := HH.out.store hB hq (ow_baseT ho2 HQ1.out.size)
      have HST := Lib.hid hst
      have HFS := Lib.hid hfs
      have HSZ := Lib.hid (refSize_any hst (Nat.le_trans (List.length_filter_le _ _) hl) s)
      rw [HNN.out] at HSZ
      clear hq hW hst hfs ho2
      go_wp2_with fail
      refine HSZ.out.mono ?_
      rintro e w9 ⟨rfl, hf9⟩
      have HF9 := Lib.hid hf9
      clear hf9
      go_wp2_with fail
      go_ret
      exact ⟨rfl, HFS.out.trans (HF9.out.mono (T := F) (fun _ h _ => h.elim)) (fun _ h _ => h), _, HST.out.later HF9.out⟩
end
end Go.Proofs.YtleoeccjnchclaaGreatDoor
namespace Go.Proofs.YtleoeccjnchclaaGreatDoor
open Go.RowKit
section
variable {w : World} {B m : Nat} {F : Nat → Prop} {v : Value} {R : List Rw}
theorem refLeave_any (H : RefH w B F m v R) (hB : B ≤ w.heap.size) (hl : R.length ≤ 2199023255552) (s : Int) (k : ByteArray) :
    Calls Tryz.prog 12 #[.pointer (some ⟨m, 0, none⟩), .int .i64 s, .string k] w fun e w' => e = .returned (.int .i64 (((R.filter (notX (s, false, k))).filter (ofS s)).length)) ∧ Fr F w w' ∧ ∃ v', RefH w' B (Grew F w w') m v' (R.filter (notX (s, false, k))) := by
  have HC := Lib.hid (refLeave0_any H hB hl (s, false, k))
  obtain ⟨nn, hnn⟩ : ∃ nn, ((R.filter (notX (s, false, k))).filter (ofS s)).length = nn := ⟨_, rfl⟩
  rw [show ((R.filter (notX (s, false, k))).filter (ofS (s, false, k).1)).length = nn from hnn] at HC
  rw [hnn]
  clear H hnn
  go_enter Tryz.func12, Tryz.ntmps12
  go_wp2_with fail
  refine HC.out.mono ?_
  rintro e w1 ⟨rfl, h1⟩
  have HG := Lib.hid h1
  clear h1
  go_wp2_with fail
  go_ret
  exact ⟨rfl, HG.out⟩
theorem refLeaveLike_any (H : RefH w B F m v R) (hB : B ≤ w.heap.size) (hl : R.length ≤ 2199023255552) (s : Int) (k : ByteArray) :
    Calls Tryz.prog 14 #[.pointer (some ⟨m, 0, none⟩), .int .i64 s, .string k] w fun e w' => e = .returned (.int .i64 (((R.filter (notX (s, true, k))).filter (ofS s)).length)) ∧ Fr F w w' ∧ ∃ v', RefH w' B (Grew F w w') m v' (R.filter (notX (s, true, k))) := by
  have HC := Lib.hid (refLeave0_any H hB hl (s, true, k))
  obtain ⟨nn, hnn⟩ : ∃ nn, ((R.filter (notX (s, true, k))).filter (ofS s)).length = nn := ⟨_, rfl⟩
  rw [show ((R.filter (notX (s, true, k))).filter (ofS (s, true, k).1)).length = nn from hnn] at HC
  rw [hnn]
  clear H hnn
  go_enter Tryz.func14, Tryz.ntmps14
  go_wp2_with fail
  refine HC.out.mono ?_
  rintro e w1 ⟨rfl, h1⟩
  have HG := Lib.hid h1
  clear h1
  go_wp2_with fail
  go_ret
  exact ⟨rfl, HG.out⟩
/-- of another session -/
def notS (s : Int) (r : Rw) : Bool := decide (r.1 ≠ s)
set_option maxRecDepth 100000 in
set_option maxHeartbeats 4000000 in
theorem refDrop_any (H : RefH w B F m v R) (hB : B ≤ w.heap.size) (hl : R.length ≤ 2199023255552) (s : Int) :
    Calls Tryz.prog 16 #[.pointer (some ⟨m, 0, none⟩), .int .i64 s] w fun e w' => (∃ u, e = .returned u) ∧ Fr F w w' ∧ ∃ v', RefH w' B (Grew F w w') m v' (R.filter (notS s)) := by
  obtain ⟨i0, hi, hz0, hz1, hz2⟩ := info_parts info_row
  have HI := Lib.hid hi
  have HZ0 := Lib.hid hz0
  have HZ1 := Lib.hid hz1
  have HZ2 := Lib.hid hz2
  have c0 := H.cell
  obtain ⟨a, c, rfl⟩ := H.slot
  have HR := Lib.hid (RdC.of_owns H.row)
  have HH := Lib.hid H
  clear H hi hz0 hz1 hz2
  go_enter Tryz.func16, Tryz.ntmps16
  go_wp2
  go_loopw [4, 14] (fun nv i wr => ∃ (k n : Nat), i = .int .i64 k ∧ k ≤ R.length ∧ n ≤ k ∧ Hid (n = ((R.take k).filter (notS s)).length) ∧ Hid (wr.ownsRow w.heap.size 58 3 nv n (((R.take k).filter (notS s)).flatMap rwC)) ∧ Hid (Fr (fun _ => False) w wr)) (fun _ i _ => R.length - (intOf i).toNat)
  case atStart => exact ⟨0, 0, rfl, by omega, by omega, (show 0 = _ by simp), (by show World.ownsRow _ _ _ _ _ _ _; rw [List.take_zero, List.filter_nil, List.flatMap_nil]; exact World.ownsRow_nil _ _ _ _), Fr.refl _ _⟩
  case round =>
    obtain ⟨k, n, rfl, hk, hn, HN, HO, HF⟩ := hrel
    obtain ⟨wo, rfl⟩ : ∃ x, x = wr := ⟨_, rfl⟩
    obtain ⟨nv, rfl⟩ : ∃ x, x = u4 := ⟨_, rfl⟩
    obtain ⟨na, nc, rfl, -⟩ := ow_slot HO.out
    by_cases hlt : k < R.length
    · obtain ⟨g, off, rfl, x0, x1, x2⟩ := rw_at (HR.out.fr HF.out (fun _ _ h => h)) k hlt
      have hs := flat_snocR R (notS s) k hlt
      obtain ⟨r, hr⟩ : ∃ r, R[k] = r := ⟨_, rfl⟩
      rw [hr] at x0 x1 x2 hs
      obtain ⟨rs, rl, rn⟩ := r
      dsimp only at x0 x1 x2 hs
      have b0 : (0 : Int) ≤ (k : Int) := by omega
      have b1 : (k : Int) < (R.length : Int) := by omega
      have HF2 := Lib.hid (HF.out.thenAlloc (.cells #[.int .i64 rs, .bool rl, .string rn] 58))
      by_cases e1 : rs = s
      · have hq : (rs != s) = false := by simpa using e1
        rw [show notS s (rs, rl, rn) = false by unfold notS; simp [e1], if_neg (by decide), List.append_nil] at hs
        have HN2 : Hid (n = ((R.take (k + 1)).filter (notS s)).length) := by show _ = _; rw [hs]; exact HN.out
        have HO2 : Hid ((wo.alloc (.cells #[.int .i64 rs, .bool rl, .string rn] 58)).ownsRow w.heap.size 58 3 (.slice na n nc) n (((R.take (k + 1)).filter (notS s)).flatMap rwC)) := by show World.ownsRow _ _ _ _ _ _ _; rw [hs]; exact HO.out.alloc _
        clear hs hr e1
        go_wp2
        go_roundw
        case rel => exact ⟨k + 1, n, by go_num, by omega, by omega, HN2, HO2, HF2⟩
        case measure => simp [intOf]; omega
      · have hq : (rs != s) = true := by simpa using e1
        rw [show notS s (rs, rl, rn) = true by unfold notS; simp [e1], if_pos rfl] at hs
        have HN2 : Hid (n + 1 = ((R.take (k + 1)).filter (notS s)).length) := by show _ = _; rw [hs, List.length_append, ← HN.out]; rfl
        have HS2 := Lib.hid hs
        have hbs : w.heap.size ≤ wo.heap.size := HF.out.size
        have HW := Lib.hid (ow_lt HO.out)
        clear hs hr e1
        go_wp2_with (at_builtin; refine wpl_append rfl (.tmp 22) (.tmp 24) 35 rfl w.heap.size 58 i0 (.agg #[.int .i64 0, .bool false, .string ⟨#[]⟩]) 3 32 Tryz.underlying35 HI.out HZ0.out HZ1.out HZ2.out rfl (by decide) (.slice na n nc) n _ rfl ((HO.out.alloc _).alloc _) _ 1 [.int .i64 rs, .bool rl, .string rn] rfl (lit_two wo (.cells #[.int .i64 rs, .bool rl, .string rn] 58) #[.int .i64 rs, .bool rl, .string rn] 58 3 rfl) (by simp [Value.oneCell']) (by unfold maxLen; omega) (by omega) (by simp only [World.size_alloc]; omega) ?_; intro v8 w8 hown hgrow; have HO8 := Lib.hid hown; have HG8 := Lib.hid hgrow; clear hown hgrow)
        have HO9 : Hid (w8.ownsRow w.heap.size 58 3 v8 (n + 1) (((R.take (k + 1)).filter (notS s)).flatMap rwC)) := by
          show World.ownsRow _ _ _ _ _ _ _
          rw [HS2.out, List.flatMap_append]
          exact HO8.out
        have HF9 : Hid (Fr (fun _ => False) w w8) := (HF2.out.thenAlloc _).wide (Fr.of_grownBy HG8.out) (fun i hi => .inr (HW.out i hi).1)
        go_roundw
        case rel => exact ⟨k + 1, n + 1, by go_num, by omega, by omega, HN2, HO9, HF9⟩
        case measure => simp [intOf]; omega
    · obtain rfl : k = R.length := by omega
      have hn2 := HN.out
      have ho2 := HO.out
      rw [List.take_length] at hn2 ho2
      subst hn2
      have hW := HH.out.quiet HF.out
      have cm := hW.cell
      have fm := hW.free
      obtain ⟨hst, hfs⟩ := HH.out.store hB HF.out ho2
      have HST := Lib.hid hst
      have HFS := Lib.hid hfs
      clear hW hst hfs ho2
      go_wp2_with fail
      go_end0
      exact ⟨⟨_, rfl⟩, HFS.out, _, HST.out⟩
end
end Go.Proofs.YtleoeccjnchclaaGreatDoor
namespace Go.Proofs.YtleoeccjnchclaaGreatDoor
open Go.RowKit
instance decMemR (x : Rw) (R : List Rw) : Decidable (x ∈ R) := @List.instDecidableMemOfLawfulBEq _ instBEqOfDecidableEq _ x R
/-- how many rows are a session's -/
def cntS (R : List Rw) (s : Int) : Nat := (R.filter (ofS s)).length
/-- what listen makes of the list -/
def refLs (R : List Rw) (x : Rw) : Nat × Nat × List Rw :=
  if 1024 < x.2.2.size then (0, 2, R) else if x ∈ R then (cntS R x.1, 0, R) else if 1024 ≤ cntS R x.1 then (0, 4, R) else (cntS (insR aheadB x R) x.1, 0, insR aheadB x R)
/-- in the midst of laying a row: what has been copied, and whether it has been laid -/
def Mid (R : List Rw) (x : Rw) (k : Nat) (b : Bool) (L : List Rw) : Prop :=
  (b = false ∧ L = R.take k ∧ ∀ r ∈ R.take k, aheadB x r = false) ∨ (b = true ∧ L ++ R.drop k = insR aheadB x R)
theorem takeWhile_all {α : Type} {p : α → Bool} {l m : List α} (h : ∀ r ∈ l, p r = true) : (l ++ m).takeWhile p = l ++ m.takeWhile p ∧ (l ++ m).dropWhile p = m.dropWhile p := by
  induction l with
  | nil => exact ⟨rfl, rfl⟩
  | cons a l ih =>
    have ha := h a (List.mem_cons_self ..)
    obtain ⟨h1, h2⟩ := ih fun r hr => h r (List.mem_cons_of_mem _ hr)
    rw [List.cons_append, List.takeWhile_cons_of_pos ha, List.dropWhile_cons_of_pos ha, h1, h2]
    exact ⟨rfl, rfl⟩
theorem Mid.zero (R : List Rw) (x : Rw) : Mid R x 0 false [] := .inl ⟨rfl, by simp, by simp⟩
theorem Mid.next {R : List Rw} {x : Rw} {k : Nat} {L : List Rw} (h : Mid R x k true L) (hk : k < R.length) : Mid R x (k + 1) true (L ++ [R[k]]) := by
  rcases h with ⟨h, _⟩ | ⟨_, h⟩
  · cases h
  · refine .inr ⟨rfl, ?_⟩
    rw [← h, List.drop_eq_getElem_cons hk]
    simp
theorem Mid.pass {R : List Rw} {x : Rw} {k : Nat} {L : List Rw} (h : Mid R x k false L) (hk : k < R.length) (hb : aheadB x R[k] = false) : Mid R x (k + 1) false (L ++ [R[k]]) := by
  rcases h with ⟨_, h1, h2⟩ | ⟨h, _⟩
  · refine .inl ⟨rfl, ?_, fun r hr => ?_⟩
    · rw [List.take_succ_eq_append_getElem hk, h1]
    · rw [List.take_succ_eq_append_getElem hk] at hr
      rcases List.mem_append.1 hr with hr | hr
      · exact h2 r hr
      · rw [List.mem_singleton.1 hr]; exact hb
  · cases h
theorem Mid.lay {R : List Rw} {x : Rw} {k : Nat} {L : List Rw} (h : Mid R x k false L) (hk : k < R.length) (hb : aheadB x R[k] = true) : Mid R x (k + 1) true (L ++ [x] ++ [R[k]]) := by
  rcases h with ⟨_, h1, h2⟩ | ⟨h, _⟩
  · refine .inr ⟨rfl, ?_⟩
    unfold insR
    have e : R = R.take k ++ R[k] :: R.drop (k + 1) := by rw [← List.drop_eq_getElem_cons hk, List.take_append_drop]
    have h3 := takeWhile_all (p := fun r => !aheadB x r) (l := R.take k) (m := R[k] :: R.drop (k + 1)) (fun r hr => by rw [h2 r hr]; rfl)
    rw [← e] at h3
    rw [h3.1, h3.2, List.takeWhile_cons_of_neg (by rw [hb]; decide), List.dropWhile_cons_of_neg (by rw [hb]; decide), h1]
    simp
  · cases h
theorem Mid.end_true {R : List Rw} {x : Rw} {L : List Rw} (h : Mid R x R.length true L) : L = insR aheadB x R := by
  rcases h with ⟨h, _⟩ | ⟨_, h⟩
  · cases h
  · rw [← h]; simp
theorem Mid.end_false {R : List Rw} {x : Rw} {L : List Rw} (h : Mid R x R.length false L) : L ++ [x] = insR aheadB x R := by
  rcases h with ⟨_, h1, h2⟩ | ⟨h, _⟩
  · rw [List.take_length] at h1 h2
    have h3 := takeWhile_all (p := fun r => !aheadB x r) (l := R) (m := []) (fun r hr => by rw [h2 r hr]; rfl)
    rw [List.append_nil] at h3
    unfold insR
    rw [h3.1, h3.2, h1]
    simp
  · cases h
theorem Mid.len {R : List Rw} {x : Rw} {k : Nat} {b : Bool} {L : List Rw} (h : Mid R x k b L) (hk : k ≤ R.length) : L.length ≤ k + 1 := by
  rcases h with ⟨_, h1, _⟩ | ⟨_, h⟩
  · rw [h1, List.length_take]; omega
  · have := congrArg List.length h
    rw [insR_len, List.length_append, List.length_drop] at this
    omega
end Go.Proofs.YtleoeccjnchclaaGreatDoor
namespace Go.Proofs.YtleoeccjnchclaaGreatDoor
open Go.RowKit
theorem lit_oneR (wo : World) (xs : Array Value) (e : TypeId) (sz : Nat) (h : xs.size = 1 * sz) : RdC (wo.alloc (.cells xs e)) sz (.slice (some ⟨wo.heap.size, 0, none⟩) 1 1) 1 xs.toList :=
  RdC.of_owns (World.ownsRow_lit (base := 0) (e := e) (size := sz) wo xs 1 (Nat.zero_le _) (by decide) h)
theorem blk_later {w w' : World} {S : Nat → Prop} {b : Nat} {o : Obj} (h : w.heap[b]? = some o) (hf : Fr S w w') (hS : ¬ S b) : w'.heap[b]? = some o := (hf.block b (Array.getElem?_eq_some_iff.1 h).1 hS).trans h
section
variable {w : World} {B m : Nat} {F : Nat → Prop} {v : Value} {R : List Rw}
set_option maxRecDepth 100000 in
set_option maxHeartbeats 8000000 in
theorem refListen0_any (H : RefH w B F m v R) (hB : B ≤ w.heap.size) (hl : R.length < 2199023255552) (x : Rw) :
    Calls Tryz.prog 28 #[.pointer (some ⟨m, 0, none⟩), .agg #[.int .i64 x.1, .bool x.2.1, .string x.2.2]] w fun e w' => e = .returned (.tuple #[.int .i64 (refLs R x).1, .int .i64 (refLs R x).2.1]) ∧ Fr F w w' ∧ ∃ v', RefH w' B (Grew F w w') m v' (refLs R x).2.2 := by
  obtain ⟨s, l, q⟩ := x
  obtain ⟨i0, hi, hz0, hz1, hz2⟩ := info_parts info_row
  have HI := Lib.hid hi
  have HZ0 := Lib.hid hz0
  have HZ1 := Lib.hid hz1
  have HZ2 := Lib.hid hz2
  obtain ⟨w1, hw1⟩ : ∃ x, w.alloc (.cells #[.int .i64 s, .bool l, .string q] 58) = x := ⟨_, rfl⟩
  have hq1 : Fr (fun _ => False) w w1 := by rw [← hw1]; exact Fr.alloc _ _ _
  have hblk : w1.heap[w.heap.size]? = some (.cells #[.int .i64 s, .bool l, .string q] 58 (0, 0)) := by rw [← hw1]; exact alloc_at w _
  have H1 := H.quiet hq1
  have c0 := H1.cell
  obtain ⟨a, c, rfl⟩ := H.slot
  have y0 : w1.cell? ⟨w.heap.size, 0, none⟩ = some (.int .i64 s) := cell_of_blk hblk 0
  have y1 : w1.cell? ⟨w.heap.size, 1, none⟩ = some (.bool l) := cell_of_blk hblk 1
  have y2 : w1.cell? ⟨w.heap.size, 2, none⟩ = some (.string q) := cell_of_blk hblk 2
  have HR := Lib.hid (RdC.of_owns H1.row)
  have HH := Lib.hid H
  have HBX := Lib.hid hblk
  have HLT : Hid (w.heap.size < w1.heap.size) := (Array.getElem?_eq_some_iff.1 hblk).1
  have HQ1 := Lib.hid hq1
  have HW1 := Lib.hid hw1
  have HSAME : Hid (∀ w', Fr (fun _ => False) w1 w' → Fr F w w' ∧ ∃ v', RefH w' B (Grew F w w') m v' R) := fun w' hf => by
    have hq : Fr (fun _ => False) w w' := hq1.wide hf (fun _ h => h.elim)
    have h2 := H.quiet hq
    exact ⟨hq.mono (fun _ h _ => h.elim), _, h2.blk, h2.row, .inl h2.fm, fun g hg => .inl (h2.fv g hg), grew_lt H.lt hB hq.size⟩
  obtain ⟨rn, hrn⟩ : ∃ n, (refLs R (s, l, q)).1 = n := ⟨_, rfl⟩
  obtain ⟨rc, hrc⟩ : ∃ n, (refLs R (s, l, q)).2.1 = n := ⟨_, rfl⟩
  obtain ⟨rr, hrr⟩ : ∃ n, (refLs R (s, l, q)).2.2 = n := ⟨_, rfl⟩
  have HRES : Hid (refLs R (s, l, q) = (rn, rc, rr)) := by rw [← hrn, ← hrc, ← hrr]; exact rfl
  rw [hrn, hrc, hrr]
  unfold refLs at HRES
  clear H H1 hi hz0 hz1 hz2 hq1 hblk hw1 hrn hrc hrr
  by_cases hlong : 1024 < q.size
  · have hres := HRES.out
    rw [if_pos (show 1024 < ((s, l, q) : Rw).2.2.size from hlong)] at hres
    obtain ⟨rfl, rfl, rfl⟩ : 0 = rn ∧ 2 = rc ∧ R = rr := by simpa using hres
    have HG := Lib.hid (HSAME.out w1 (Fr.refl _ _))
    clear HRES hres
    go_enter Tryz.func28, Tryz.ntmps28
    go_upto_region 1 with (fail)
    rw [HW1.out]
    go_wp2_with fail
    go_ret2
    exact ⟨rfl, HG.out⟩
  have hres := HRES.out
  rw [if_neg (show ¬ 1024 < ((s, l, q) : Rw).2.2.size from hlong)] at hres
  have HRES2 := Lib.hid hres
  clear HRES hres
  go_enter Tryz.func28, Tryz.ntmps28
  go_upto_region 1 with (fail)
  rw [HW1.out]
  go_wp2
  go_loopw [23] (fun i wr => ∃ (k : Nat), i = .int .i64 k ∧ k ≤ R.length ∧ Hid ((s, l, q) ∉ R.take k) ∧ Hid (Fr (fun _ => False) w1 wr)) (fun i _ => R.length - (intOf i).toNat)
  case atStart => exact ⟨0, rfl, by omega, (show _ ∉ _ by simp), Fr.refl _ _⟩
  case round =>
    obtain ⟨k, rfl, hk, HN, HF⟩ := hrel
    obtain ⟨wo, rfl⟩ : ∃ x, x = wr := ⟨_, rfl⟩
    by_cases hlt : k < R.length
    · obtain ⟨g, off, rfl, x0, x1, x2⟩ := rw_at (HR.out.fr HF.out (fun _ _ h => h)) k hlt
      obtain ⟨r, hr⟩ : ∃ r, R[k] = r := ⟨_, rfl⟩
      rw [hr] at x0 x1 x2
      have hNX : (s, l, q) ≠ r → (s, l, q) ∉ R.take (k + 1) := fun hne hm => by
        rw [List.take_succ_eq_append_getElem hlt, hr] at hm
        rcases List.mem_append.1 hm with hm | hm
        · exact HN.out hm
        · exact hne (List.mem_singleton.1 hm)
      have hIN : (s, l, q) = r → (s, l, q) ∈ R := fun e => by rw [e, ← hr]; exact List.getElem_mem hlt
      obtain ⟨rs, rl, rn'⟩ := r
      dsimp only at x0 x1 x2
      have HNX := Lib.hid hNX
      have HIN := Lib.hid hIN
      have b0 : (0 : Int) ≤ (k : Int) := by omega
      have b1 : (k : Int) < (R.length : Int) := by omega
      have hws : w.heap.size < wo.heap.size := Nat.lt_of_lt_of_le HLT.out HF.out.size
      have hwn : ¬ w.heap.size = wo.heap.size := by omega
      have z0 := HF.out.cell y0 (fun h => h)
      have z1 := HF.out.cell y1 (fun h => h)
      have z2 := HF.out.cell y2 (fun h => h)
      clear hr hNX hIN
      go_upto_region 8 with (fail)
      go_cut [29] from 27 to 29 (fun t wc => wc = wo.alloc (.cells #[.int .i64 rs, .bool rl, .string rn'] 58) ∧ ∃ b : Bool, t = .bool b ∧ Hid (b = decide ((s, l, q) = (rs, rl, rn'))))
      case first =>
        by_cases e1 : rs = s
        · by_cases e2 : rl = l
          · by_cases e3 : rn' = q
            · have HOF : Hid (true = decide ((s, l, q) = (rs, rl, rn'))) := by show _ = _; rw [e1, e2, e3]; simp
              subst e1 e2 e3
              go_wp2
              go_meet
              case rel => exact ⟨rfl, _, rfl, HOF⟩
            · have HOF : Hid (false = decide ((s, l, q) = (rs, rl, rn'))) := by show _ = _; exact (decide_eq_false fun e => e3 (by cases e; rfl)).symm
              subst e1 e2
              have hq : (rn'.toList == q.toList) = false := by rw [str_beq]; simpa using e3
              go_wp2
              go_meet
              case rel => exact ⟨rfl, _, rfl, HOF⟩
          · have HOF : Hid (false = decide ((s, l, q) = (rs, rl, rn'))) := by show _ = _; exact (decide_eq_false fun e => e2 (by cases e; rfl)).symm
            subst e1
            cases rl <;> cases l
            all_goals
              first
              | exact absurd rfl e2
              | (go_wp2
                 go_meet
                 case rel => exact ⟨rfl, _, rfl, HOF⟩)
        · have HOF : Hid (false = decide ((s, l, q) = (rs, rl, rn'))) := by show _ = _; exact (decide_eq_false fun e => e1 (by cases e; rfl)).symm
          have hq : (rs == s) = false := by simpa using e1
          go_wp2
          go_meet
          case rel => exact ⟨rfl, _, rfl, HOF⟩
      case rest =>
      obtain ⟨rfl, b, rfl, HB2⟩ := hcut
      have HF2 := Lib.hid (HF.out.thenAlloc (.cells #[.int .i64 rs, .bool rl, .string rn'] 58))
      cases b with
      | false =>
        have HN2 := Lib.hid (HNX.out (of_decide_eq_false HB2.out.symm))
        go_wp2
        go_roundw
        case rel => exact ⟨k + 1, by go_num, by omega, HN2, HF2⟩
        case measure => simp [intOf]; omega
      | true =>
        have hin := HIN.out (of_decide_eq_true HB2.out.symm)
        have hres := HRES2.out
        rw [if_pos hin] at hres
        obtain ⟨hr1, rfl, rfl⟩ : cntS R s = rn ∧ 0 = rc ∧ R = rr := by simpa using hres
        have hWQ : Fr (fun _ => False) w (wo.alloc (.cells #[.int .i64 rs, .bool rl, .string rn'] 58)) := HQ1.out.wide HF2.out (fun _ h => h.elim)
        have HSZ := Lib.hid (refSize_any (HH.out.quiet hWQ) (by omega) s)
        rw [show (R.filter (ofS s)).length = rn from hr1] at HSZ
        clear hin hres hr1 hWQ
        go_wp2_with fail
        refine HSZ.out.mono ?_
        rintro e w9 ⟨rfl, hf9⟩
        have HG := Lib.hid (HSAME.out w9 (HF2.out.wide hf9 (fun _ h => h.elim)))
        clear hf9
        go_wp2_with fail
        go_ret2
        exact ⟨rfl, HG.out⟩
    · obtain rfl : k = R.length := by omega
      have hni := HN.out
      rw [List.take_length] at hni
      have hres := HRES2.out
      rw [if_neg hni] at hres
      have HRES3 := Lib.hid hres
      have hWQ : Fr (fun _ => False) w wo := HQ1.out.wide HF.out (fun _ h => h.elim)
      have HSZ := Lib.hid (refSize_any (HH.out.quiet hWQ) (by omega) s)
      obtain ⟨n1, hn1⟩ : ∃ n, (R.filter (ofS s)).length = n := ⟨_, rfl⟩
      have HN1 : Hid (cntS R s = n1) := hn1
      rw [hn1] at HSZ
      have hnb : n1 ≤ 2199023255552 := by have := List.length_filter_le (ofS s) R; omega
      have z0 := HF.out.cell y0 (fun h => h)
      clear hni hres hWQ hn1 HN HRES2
      go_wp2_with fail
      refine HSZ.out.mono ?_
      rintro e w9 ⟨rfl, hf9⟩
      have HF9 := Lib.hid (HF.out.wide hf9 (fun _ h => h.elim))
      clear hf9
      by_cases hfull : 1024 ≤ n1
      · have hres := HRES3.out
        rw [show cntS R ((s, l, q) : Rw).1 = n1 from HN1.out, if_pos hfull] at hres
        obtain ⟨rfl, rfl, rfl⟩ : 0 = rn ∧ 4 = rc ∧ R = rr := by simpa using hres
        have HG := Lib.hid (HSAME.out w9 HF9.out)
        clear hres HRES3
        go_wp2_with fail
        go_ret2
        exact ⟨rfl, HG.out⟩
      have hres := HRES3.out
      rw [show cntS R ((s, l, q) : Rw).1 = n1 from HN1.out, if_neg hfull] at hres
      obtain ⟨hr1, rfl, hr3⟩ : cntS (insR aheadB (s, l, q) R) s = rn ∧ 0 = rc ∧ insR aheadB (s, l, q) R = rr := by simpa using hres
      have HR1 := Lib.hid hr1
      have HR3 := Lib.hid hr3
      have c9 := HF9.out.cell c0 (fun h => h)
      clear hres hr1 hr3 HRES3
      go_wp2_with fail
      have HZZ : Hid (w.heap.size < w9.heap.size) := Nat.lt_of_lt_of_le HLT.out HF9.out.size
      go_loopw [8, 9, 45] (fun nv bv i wr => ∃ (k n : Nat) (b : Bool) (L : List Rw), i = .int .i64 k ∧ k ≤ R.length ∧ bv = .bool b ∧ n ≤ k + 1 ∧ Hid (n = L.length) ∧ Hid (Mid R (s, l, q) k b L) ∧ Hid (wr.ownsRow w9.heap.size 58 3 nv n (L.flatMap rwC)) ∧ Hid (Fr (fun _ => False) w9 wr)) (fun _ _ i _ => R.length - (intOf i).toNat)
      case atStart => exact ⟨0, 0, false, [], rfl, by omega, rfl, by omega, rfl, Mid.zero _ _, World.ownsRow_nil _ _ _ _, Fr.refl _ _⟩
      case round =>
        obtain ⟨k, n, b, L, rfl, hk, rfl, hn, HN, HM, HO, HF⟩ := hrel
        obtain ⟨wo, rfl⟩ : ∃ x, x = wr := ⟨_, rfl⟩
        obtain ⟨nv, rfl⟩ : ∃ x, x = u8 := ⟨_, rfl⟩
        obtain ⟨na, nc, rfl, -⟩ := ow_slot HO.out
        have hws : w.heap.size < wo.heap.size := Nat.lt_of_lt_of_le HZZ.out HF.out.size
        have hwn : ¬ w.heap.size = wo.heap.size := by omega
        have z0 := (HF9.out.wide HF.out (fun _ h => h.elim)).cell y0 (fun h => h)
        have z1 := (HF9.out.wide HF.out (fun _ h => h.elim)).cell y1 (fun h => h)
        have z2 := (HF9.out.wide HF.out (fun _ h => h.elim)).cell y2 (fun h => h)
        have hbs : w9.heap.size ≤ wo.heap.size := HF.out.size
        have HW := Lib.hid (ow_lt HO.out)
        by_cases hlt : k < R.length
        · obtain ⟨g, off, rfl, x0, x1, x2⟩ := rw_at (HR.out.fr (HF9.out.wide HF.out (fun _ h => h.elim)) (fun _ _ h => h)) k hlt
          obtain ⟨r, hr⟩ : ∃ r, R[k] = r := ⟨_, rfl⟩
          rw [hr] at x0 x1 x2
          have HNT : Hid (∀ L, Mid R (s, l, q) k true L → Mid R (s, l, q) (k + 1) true (L ++ [r])) := fun L h => by rw [← hr]; exact h.next hlt
          have HNF : Hid (∀ L, Mid R (s, l, q) k false L → aheadB (s, l, q) r = false → Mid R (s, l, q) (k + 1) false (L ++ [r])) := fun L h hb => by rw [← hr] at hb ⊢; exact h.pass hlt hb
          have HNL : Hid (∀ L, Mid R (s, l, q) k false L → aheadB (s, l, q) r = true → Mid R (s, l, q) (k + 1) true (L ++ [(s, l, q)] ++ [r])) := fun L h hb => by rw [← hr] at hb ⊢; exact h.lay hlt hb
          obtain ⟨rs, rl, rn'⟩ := r
          dsimp only at x0 x1 x2
          have b0 : (0 : Int) ≤ (k : Int) := by omega
          have b1 : (k : Int) < (R.length : Int) := by omega
          have HF2 := Lib.hid (HF.out.thenAlloc (.cells #[.int .i64 rs, .bool rl, .string rn'] 58))
          clear hr
          cases b with
          | true =>
            have HM2 := Lib.hid (HNT.out L HM.out)
            go_wp2_with (at_builtin; refine wpl_append rfl (.tmp 60) (.tmp 62) 35 rfl w9.heap.size 58 i0 (.agg #[.int .i64 0, .bool false, .string ⟨#[]⟩]) 3 32 Tryz.underlying35 HI.out HZ0.out HZ1.out HZ2.out rfl (by decide) (.slice na n nc) n _ rfl ((HO.out.alloc _).alloc _) _ 1 [.int .i64 rs, .bool rl, .string rn'] rfl (lit_two wo (.cells #[.int .i64 rs, .bool rl, .string rn'] 58) #[.int .i64 rs, .bool rl, .string rn'] 58 3 rfl) (by simp [Value.oneCell']) (by unfold maxLen; omega) (by omega) (by simp only [World.size_alloc]; omega) ?_; intro v8 w8 hown hgrow; have HO8 := Lib.hid hown; have HG8 := Lib.hid hgrow; clear hown hgrow)
            have HO9 : Hid (w8.ownsRow w9.heap.size 58 3 v8 (n + 1) ((L ++ [(rs, rl, rn')]).flatMap rwC)) := by
              show World.ownsRow _ _ _ _ _ _ _
              rw [List.flatMap_append]
              exact HO8.out
            have HF8 : Hid (Fr (fun _ => False) w9 w8) := (HF2.out.thenAlloc _).wide (Fr.of_grownBy HG8.out) (fun i hi => .inr (HW.out i hi).1)
            have HN8 : Hid (n + 1 = (L ++ [(rs, rl, rn')]).length) := by show _ = _; rw [List.length_append, ← HN.out]; rfl
            go_roundw
            case rel => exact ⟨k + 1, n + 1, true, _, by go_num, by omega, rfl, by omega, HN8, HM2, HO9, HF8⟩
            case measure => simp [intOf]; omega
          | false =>
            go_wp2_with fail
            refine (ahead_any (s, l, q) (rs, rl, rn') _).mono ?_
            rintro e wb ⟨rfl, hfb⟩
            have HFB := Lib.hid (HF2.out.wide hfb (fun _ h => h.elim))
            have hblk2 := blk_later (alloc_at wo (.cells #[.int .i64 rs, .bool rl, .string rn'] 58)) hfb (fun h => h)
            have t0 : wb.cell? ⟨wo.heap.size, 0, none⟩ = some (.int .i64 rs) := cell_of_blk hblk2 0
            have t1 : wb.cell? ⟨wo.heap.size, 1, none⟩ = some (.bool rl) := cell_of_blk hblk2 1
            have t2 : wb.cell? ⟨wo.heap.size, 2, none⟩ = some (.string rn') := cell_of_blk hblk2 2
            have HBL2 := Lib.hid hblk2
            have q0 := (HF9.out.wide HFB.out (fun _ h => h.elim)).cell y0 (fun h => h)
            have q1 := (HF9.out.wide HFB.out (fun _ h => h.elim)).cell y1 (fun h => h)
            have q2 := (HF9.out.wide HFB.out (fun _ h => h.elim)).cell y2 (fun h => h)
            have HOB := Lib.hid (ow_frT (HO.out.alloc (.cells #[.int .i64 rs, .bool rl, .string rn'] 58)) hfb (fun _ _ h => h))
            have hbb : w9.heap.size ≤ wb.heap.size := HFB.out.size
            clear hfb hblk2
            cases hab : aheadB (s, l, q) (rs, rl, rn') with
            | false =>
              have HM2 := Lib.hid (HNF.out L HM.out hab)
              clear hab
              go_wp2_with (at_builtin; refine wpl_append rfl (.tmp 60) (.tmp 62) 35 rfl w9.heap.size 58 i0 (.agg #[.int .i64 0, .bool false, .string ⟨#[]⟩]) 3 32 Tryz.underlying35 HI.out HZ0.out HZ1.out HZ2.out rfl (by decide) (.slice na n nc) n _ rfl (HOB.out.alloc _) _ 1 [.int .i64 rs, .bool rl, .string rn'] rfl (lit_oneR wb #[.int .i64 rs, .bool rl, .string rn'] 58 3 rfl) (by simp [Value.oneCell']) (by unfold maxLen; omega) (by omega) (by simp only [World.size_alloc]; omega) ?_; intro v8 w8 hown hgrow; have HO8 := Lib.hid hown; have HG8 := Lib.hid hgrow; clear hown hgrow)
              have HO9 : Hid (w8.ownsRow w9.heap.size 58 3 v8 (n + 1) ((L ++ [(rs, rl, rn')]).flatMap rwC)) := by
                show World.ownsRow _ _ _ _ _ _ _
                rw [List.flatMap_append]
                exact HO8.out
              have HF8 : Hid (Fr (fun _ => False) w9 w8) := (HFB.out.thenAlloc _).wide (Fr.of_grownBy HG8.out) (fun i hi => .inr (HW.out i hi).1)
              have HN8 : Hid (n + 1 = (L ++ [(rs, rl, rn')]).length) := by show _ = _; rw [List.length_append, ← HN.out]; rfl
              go_roundw
              case rel => exact ⟨k + 1, n + 1, false, _, by go_num, by omega, rfl, by omega, HN8, HM2, HO9, HF8⟩
              case measure => simp [intOf]; omega
            | true =>
              have HM2 := Lib.hid (HNL.out L HM.out hab)
              have hnk : n ≤ k := by
                rcases HM.out with ⟨_, h1, _⟩ | ⟨h1, _⟩
                · have := HN.out; rw [h1, List.length_take] at this; omega
                · cases h1
              clear hab
              go_upto_region 21 with (at_builtin; refine wpl_append rfl (.tmp 56) (.tmp 58) 35 rfl w9.heap.size 58 i0 (.agg #[.int .i64 0, .bool false, .string ⟨#[]⟩]) 3 32 Tryz.underlying35 HI.out HZ0.out HZ1.out HZ2.out rfl (by decide) (.slice na n nc) n _ rfl (HOB.out.alloc _) _ 1 [.int .i64 s, .bool l, .string q] rfl (lit_oneR wb #[.int .i64 s, .bool l, .string q] 58 3 rfl) (by simp [Value.oneCell']) (by unfold maxLen; omega) (by omega) (by simp only [World.size_alloc]; omega) ?_; intro v8 w8 hown hgrow; have HO8 := Lib.hid hown; have HG8 := Lib.hid hgrow; clear hown hgrow)
              have hblk8 := blk_later ((blk_later HBL2.out (Fr.alloc (fun _ => False) wb _) (fun h => h))) (Fr.of_grownBy HG8.out) (fun e => by have := (HW.out _ e).2; omega)
              have t0' : w8.cell? ⟨wo.heap.size, 0, none⟩ = some (.int .i64 rs) := cell_of_blk hblk8 0
              have t1' : w8.cell? ⟨wo.heap.size, 1, none⟩ = some (.bool rl) := cell_of_blk hblk8 1
              have t2' : w8.cell? ⟨wo.heap.size, 2, none⟩ = some (.string rn') := cell_of_blk hblk8 2
              have HF8 : Hid (Fr (fun _ => False) w9 w8) := (HFB.out.thenAlloc _).wide (Fr.of_grownBy HG8.out) (fun i hi => .inr (HW.out i hi).1)
              have HWC := Lib.hid (ow_lt HO8.out)
              have hb8 : w9.heap.size ≤ w8.heap.size := HF8.out.size
              obtain ⟨na8, nc8, rfl, -⟩ := ow_slot HO8.out
              clear hblk8
              go_wp2_with (at_builtin; refine wpl_append rfl (.tmp 60) (.tmp 62) 35 rfl w9.heap.size 58 i0 (.agg #[.int .i64 0, .bool false, .string ⟨#[]⟩]) 3 32 Tryz.underlying35 HI.out HZ0.out HZ1.out HZ2.out rfl (by decide) (.slice na8 (n + 1) nc8) (n + 1) _ rfl (HO8.out.alloc _) _ 1 [.int .i64 rs, .bool rl, .string rn'] rfl (lit_oneR w8 #[.int .i64 rs, .bool rl, .string rn'] 58 3 rfl) (by simp [Value.oneCell']) (by unfold maxLen; omega) (by omega) (by simp only [World.size_alloc]; omega) ?_; intro v7 w7 hown hgrow; have HO7 := Lib.hid hown; have HG7 := Lib.hid hgrow; clear hown hgrow)
              have HO9 : Hid (w7.ownsRow w9.heap.size 58 3 v7 (n + 1 + 1) ((L ++ [(s, l, q)] ++ [(rs, rl, rn')]).flatMap rwC)) := by
                show World.ownsRow _ _ _ _ _ _ _
                rw [List.flatMap_append, List.flatMap_append]
                exact HO7.out
              have HF7 : Hid (Fr (fun _ => False) w9 w7) := (HF8.out.thenAlloc _).wide (Fr.of_grownBy HG7.out) (fun i hi => .inr (HWC.out i hi).1)
              have HN8 : Hid (n + 1 + 1 = (L ++ [(s, l, q)] ++ [(rs, rl, rn')]).length) := by show _ = _; rw [List.length_append, List.length_append, ← HN.out]; rfl
              go_roundw
              case rel => exact ⟨k + 1, n + 1 + 1, true, _, by go_num, by omega, rfl, by omega, HN8, HM2, HO9, HF7⟩
              case measure => simp [intOf]; omega
        · obtain rfl : k = R.length := by omega
          have hq9 : Fr (fun _ => False) w w9 := HQ1.out.wide HF9.out (fun _ h => h.elim)
          have hqo : Fr (fun _ => False) w wo := hq9.wide HF.out (fun _ h => h.elim)
          have hW := HH.out.quiet hqo
          have cm := hW.cell
          have fm := hW.free
          have hmn : ¬ w.heap.size = m := by have := (HH.out.lt m HH.out.fm).2; omega
          have hmlt : m < w.heap.size := (HH.out.lt m HH.out.fm).2
          have HBW : Hid (w.heap.size ≤ w9.heap.size) := hq9.size
          have HQO := Lib.hid hqo
          cases b with
          | true =>
            have he := HM.out.end_true
            have ho2 := HO.out
            have hn2 := HN.out
            rw [he] at ho2 hn2
            rw [HR3.out] at ho2 hn2
            subst hn2
            obtain ⟨hst, hfs⟩ := HH.out.store hB HQO.out (ow_baseT ho2 HBW.out)
            have HST := Lib.hid hst
            have HFS := Lib.hid hfs
            have HSZ2 := Lib.hid (refSize_any hst (by rw [← HR3.out, insR_len]; omega) s)
            rw [show (rr.filter (ofS s)).length = rn from by rw [← HR3.out]; exact HR1.out] at HSZ2
            clear hq9 hqo hW hst hfs ho2 he
            go_wp2_with fail
            refine HSZ2.out.mono ?_
            rintro e wx ⟨rfl, hfx⟩
            have HFX := Lib.hid hfx
            clear hfx
            go_wp2_with fail
            go_ret2
            exact ⟨rfl, HFS.out.trans (HFX.out.mono (T := F) (fun _ h _ => h.elim)) (fun _ h _ => h), _, HST.out.later HFX.out⟩
          | false =>
            have he := HM.out.end_false
            rw [HR3.out] at he
            have hnk : n ≤ R.length := by
              rcases HM.out with ⟨_, h1, _⟩ | ⟨h1, _⟩
              · have := HN.out; rw [h1, List.length_take] at this; omega
              · cases h1
            have HE := Lib.hid he
            clear hq9 hqo hW he
            go_upto_region 25 with (at_builtin; refine wpl_append rfl (.tmp 67) (.tmp 69) 35 rfl w9.heap.size 58 i0 (.agg #[.int .i64 0, .bool false, .string ⟨#[]⟩]) 3 32 Tryz.underlying35 HI.out HZ0.out HZ1.out HZ2.out rfl (by decide) (.slice na n nc) n _ rfl (HO.out.alloc _) _ 1 [.int .i64 s, .bool l, .string q] rfl (lit_oneR wo #[.int .i64 s, .bool l, .string q] 58 3 rfl) (by simp [Value.oneCell']) (by unfold maxLen; omega) (by omega) (by simp only [World.size_alloc]; omega) ?_; intro v8 w8 hown hgrow; have HO8 := Lib.hid hown; have HG8 := Lib.hid hgrow; clear hown hgrow)
            have HQ8 : Hid (Fr (fun _ => False) w w8) := (HQO.out.thenAlloc _).wide (Fr.of_grownBy HG8.out) (fun i hi => .inr (Nat.le_trans HBW.out (HW.out i hi).1))
            have ho2 : w8.ownsRow w9.heap.size 58 3 v8 rr.length (rr.flatMap rwC) := by
              have h9 := HO8.out
              rw [← HE.out, List.flatMap_append, List.length_append, ← HN.out]
              exact h9
            obtain ⟨na8, nc8, rfl, -⟩ := ow_slot ho2
            have hW8 := HH.out.quiet HQ8.out
            have cm8 := hW8.cell
            have fm8 := hW8.free
            have q0 : w8.cell? ⟨w.heap.size, 0, none⟩ = some (.int .i64 s) := cell_of_blk (blk_later (blk_later (blk_later HBX.out (HF9.out.wide HF.out (fun _ h => h.elim)) (fun h => h)) (Fr.alloc (fun _ => False) wo _) (fun h => h)) (Fr.of_grownBy HG8.out) (fun e => by have := (HW.out _ e).1; have := HZZ.out; omega)) 0
            obtain ⟨hst, hfs⟩ := HH.out.store hB HQ8.out (ow_baseT ho2 HBW.out)
            have HST := Lib.hid hst
            have HFS := Lib.hid hfs
            have HSZ2 := Lib.hid (refSize_any hst (by rw [← HR3.out, insR_len]; omega) s)
            rw [show (rr.filter (ofS s)).length = rn from by rw [← HR3.out]; exact HR1.out] at HSZ2
            clear hW8 hst hfs ho2
            go_wp2_with fail
            refine HSZ2.out.mono ?_
            rintro e wx ⟨rfl, hfx⟩
            have HFX := Lib.hid hfx
            clear hfx
            go_wp2_with fail
            go_ret2
            exact ⟨rfl, HFS.out.trans (HFX.out.mono (T := F) (fun _ h _ => h.elim)) (fun _ h _ => h), _, HST.out.later HFX.out⟩
end
end Go.Proofs.YtleoeccjnchclaaGreatDoor
namespace Go.Proofs.YtleoeccjnchclaaGreatDoor
open Go.RowKit
section
variable {w : World} {B m : Nat} {F : Nat → Prop} {v : Value} {R : List Rw}
theorem refListen_any (H : RefH w B F m v R) (hB : B ≤ w.heap.size) (hl : R.length < 2199023255552) (s : Int) (k : ByteArray) :
    Calls Tryz.prog 7 #[.pointer (some ⟨m, 0, none⟩), .int .i64 s, .string k] w fun e w' => e = .returned (.tuple #[.int .i64 (refLs R (s, false, k)).1, .int .i64 (refLs R (s, false, k)).2.1]) ∧ Fr F w w' ∧ ∃ v', RefH w' B (Grew F w w') m v' (refLs R (s, false, k)).2.2 := by
  have HC := Lib.hid (refListen0_any H hB hl (s, false, k))
  clear H
  go_enter Tryz.func7, Tryz.ntmps7
  go_wp2_with fail
  refine HC.out.mono ?_
  rintro e w1 ⟨rfl, h1⟩
  have HG := Lib.hid h1
  clear h1
  go_wp2_with fail
  go_ret2
  exact ⟨rfl, HG.out⟩
theorem refLike_any (H : RefH w B F m v R) (hB : B ≤ w.heap.size) (hl : R.length < 2199023255552) (s : Int) (k : ByteArray) :
    Calls Tryz.prog 10 #[.pointer (some ⟨m, 0, none⟩), .int .i64 s, .string k] w fun e w' => e = .returned (.tuple #[.int .i64 (refLs R (s, true, k)).1, .int .i64 (refLs R (s, true, k)).2.1]) ∧ Fr F w w' ∧ ∃ v', RefH w' B (Grew F w w') m v' (refLs R (s, true, k)).2.2 := by
  have HC := Lib.hid (refListen0_any H hB hl (s, true, k))
  clear H
  go_enter Tryz.func10, Tryz.ntmps10
  go_wp2_with fail
  refine HC.out.mono ?_
  rintro e w1 ⟨rfl, h1⟩
  have HG := Lib.hid h1
  clear h1
  go_wp2_with fail
  go_ret2
  exact ⟨rfl, HG.out⟩
end
theorem nrListen0_any (w : World) (x : Rw) : Calls Tryz.prog 28 #[.pointer none, .agg #[.int .i64 x.1, .bool x.2.1, .string x.2.2]] w fun e w' => e = .returned (.tuple #[.int .i64 0, .int .i64 1]) ∧ Fr (fun _ => False) w w' := by
  go_enter Tryz.func28, Tryz.ntmps28
  go_wp2
  go_ret2
  exact ⟨rfl, Fr.alloc _ _ _⟩
theorem nrLeave0_any (w : World) (x : Rw) : Calls Tryz.prog 30 #[.pointer none, .agg #[.int .i64 x.1, .bool x.2.1, .string x.2.2]] w fun e w' => e = .returned (.int .i64 0) ∧ Fr (fun _ => False) w w' := by
  go_enter Tryz.func30, Tryz.ntmps30
  go_wp2
  go_ret
  exact ⟨rfl, Fr.alloc _ _ _⟩
theorem nrListen_any (w : World) (s : Int) (k : ByteArray) : Calls Tryz.prog 7 #[.pointer none, .int .i64 s, .string k] w fun e w' => e = .returned (.tuple #[.int .i64 0, .int .i64 1]) ∧ Fr (fun _ => False) w w' := by
  go_enter Tryz.func7, Tryz.ntmps7
  go_wp2_with fail
  refine (nrListen0_any _ (s, false, k)).mono ?_
  rintro e w1 ⟨rfl, h1⟩
  have HG := Lib.hid h1
  clear h1
  go_wp2_with fail
  go_ret2
  exact ⟨rfl, HG.out⟩
theorem nrLike_any (w : World) (s : Int) (k : ByteArray) : Calls Tryz.prog 10 #[.pointer none, .int .i64 s, .string k] w fun e w' => e = .returned (.tuple #[.int .i64 0, .int .i64 1]) ∧ Fr (fun _ => False) w w' := by
  go_enter Tryz.func10, Tryz.ntmps10
  go_wp2_with fail
  refine (nrListen0_any _ (s, true, k)).mono ?_
  rintro e w1 ⟨rfl, h1⟩
  have HG := Lib.hid h1
  clear h1
  go_wp2_with fail
  go_ret2
  exact ⟨rfl, HG.out⟩
theorem nrLeave_any (w : World) (s : Int) (k : ByteArray) : Calls Tryz.prog 12 #[.pointer none, .int .i64 s, .string k] w fun e w' => e = .returned (.int .i64 0) ∧ Fr (fun _ => False) w w' := by
  go_enter Tryz.func12, Tryz.ntmps12
  go_wp2_with fail
  refine (nrLeave0_any _ (s, false, k)).mono ?_
  rintro e w1 ⟨rfl, h1⟩
  have HG := Lib.hid h1
  clear h1
  go_wp2_with fail
  go_ret
  exact ⟨rfl, HG.out⟩
theorem nrLeaveLike_any (w : World) (s : Int) (k : ByteArray) : Calls Tryz.prog 14 #[.pointer none, .int .i64 s, .string k] w fun e w' => e = .returned (.int .i64 0) ∧ Fr (fun _ => False) w w' := by
  go_enter Tryz.func14, Tryz.ntmps14
  go_wp2_with fail
  refine (nrLeave0_any _ (s, true, k)).mono ?_
  rintro e w1 ⟨rfl, h1⟩
  have HG := Lib.hid h1
  clear h1
  go_wp2_with fail
  go_ret
  exact ⟨rfl, HG.out⟩
theorem nrDrop_any (w : World) (s : Int) : Calls Tryz.prog 16 #[.pointer none, .int .i64 s] w fun e w' => (∃ u, e = .returned u) ∧ w = w' := by
  go_enter Tryz.func16, Tryz.ntmps16
  go_wp2
  refine bodyPost_ret (results_none rfl _ _ _) rfl ?_
  exact ⟨⟨_, rfl⟩, rfl⟩
theorem nrTell_any (w : World) (k t : ByteArray) : Calls Tryz.prog 18 #[.pointer none, .string k, .string t] w fun e w' => e = .returned (.slice none 0 0) ∧ w = w' := by
  go_enter Tryz.func18, Tryz.ntmps18
  go_wp2
  go_ret
  exact ⟨rfl, rfl⟩
theorem nrCount_any (w : World) (k : ByteArray) : Calls Tryz.prog 22 #[.pointer none, .string k] w fun e w' => e = .returned (.int .i64 0) ∧ w = w' := by
  go_enter Tryz.func22, Tryz.ntmps22
  go_wp2
  go_ret
  exact ⟨rfl, rfl⟩
theorem nrNames_any (w : World) (s : Int) (b : Bool) : Calls Tryz.prog 40 #[.pointer none, .int .i64 s, .bool b] w fun e w' => e = .returned (.slice none 0 0) ∧ w = w' := by
  go_enter Tryz.func40, Tryz.ntmps40
  go_wp2
  go_ret
  exact ⟨rfl, rfl⟩
theorem nrChannels_any (w : World) (s : Int) : Calls Tryz.prog 26 #[.pointer none, .int .i64 s] w fun e w' => e = .returned (.slice none 0 0) ∧ w = w' := by
  go_enter Tryz.func26, Tryz.ntmps26
  go_wp2_with fail
  refine (nrNames_any _ s false).mono ?_
  rintro e w1 ⟨rfl, rfl⟩
  go_wp2_with fail
  go_ret
  exact ⟨rfl, rfl⟩
theorem nrPatterns_any (w : World) (s : Int) : Calls Tryz.prog 27 #[.pointer none, .int .i64 s] w fun e w' => e = .returned (.slice none 0 0) ∧ w = w' := by
  go_enter Tryz.func27, Tryz.ntmps27
  go_wp2_with fail
  refine (nrNames_any _ s true).mono ?_
  rintro e w1 ⟨rfl, rfl⟩
  go_wp2_with fail
  go_ret
  exact ⟨rfl, rfl⟩
end Go.Proofs.YtleoeccjnchclaaGreatDoor
namespace Go.Proofs.YtleoeccjnchclaaGreatDoor
open Go.RowKit
theorem nilListen_any (w : World) (s : Int) (k : ByteArray) : Calls Tryz.prog 9 #[.pointer none, .int .i64 s, .string k] w fun e w' => e = .returned (.tuple #[.int .i64 0, .int .i64 1]) ∧ w = w' := by
  go_enter Tryz.func9, Tryz.ntmps9
  go_wp2
  go_ret2
  exact ⟨rfl, rfl⟩
theorem nilLeave_any (w : World) (s : Int) (k : ByteArray) : Calls Tryz.prog 13 #[.pointer none, .int .i64 s, .string k] w fun e w' => e = .returned (.int .i64 0) ∧ w = w' := by
  go_enter Tryz.func13, Tryz.ntmps13
  go_wp2
  go_ret
  exact ⟨rfl, rfl⟩
theorem nilTell_any (w : World) (k t : ByteArray) : Calls Tryz.prog 19 #[.pointer none, .string k, .string t] w fun e w' => e = .returned (.slice none 0 0) ∧ w = w' := by
  go_enter Tryz.func19, Tryz.ntmps19
  go_wp2
  go_ret
  exact ⟨rfl, rfl⟩
theorem nilCount_any (w : World) (k : ByteArray) : Calls Tryz.prog 21 #[.pointer none, .string k] w fun e w' => e = .returned (.int .i64 0) ∧ w = w' := by
  go_enter Tryz.func21, Tryz.ntmps21
  go_wp2
  go_ret
  exact ⟨rfl, rfl⟩
theorem nilChannels_any (w : World) (s : Int) : Calls Tryz.prog 23 #[.pointer none, .int .i64 s] w fun e w' => e = .returned (.slice none 0 0) ∧ w = w' := by
  go_enter Tryz.func23, Tryz.ntmps23
  go_wp2
  go_ret
  exact ⟨rfl, rfl⟩
theorem nilPatterns_any (w : World) (s : Int) : Calls Tryz.prog 24 #[.pointer none, .int .i64 s] w fun e w' => e = .returned (.slice none 0 0) ∧ w = w' := by
  go_enter Tryz.func24, Tryz.ntmps24
  go_wp2
  go_ret
  exact ⟨rfl, rfl⟩
theorem nilLike_any (w : World) (s : Int) (k : ByteArray) : Calls Tryz.prog 11 #[.pointer none, .int .i64 s, .string k] w fun e w' => e = .returned (.tuple #[.int .i64 0, .int .i64 1]) ∧ w = w' := by
  go_enter Tryz.func11, Tryz.ntmps11
  go_wp2
  go_ret2
  exact ⟨rfl, rfl⟩
theorem nilLeaveLike_any (w : World) (s : Int) (k : ByteArray) : Calls Tryz.prog 15 #[.pointer none, .int .i64 s, .string k] w fun e w' => e = .returned (.int .i64 0) ∧ w = w' := by
  go_enter Tryz.func15, Tryz.ntmps15
  go_wp2
  go_ret
  exact ⟨rfl, rfl⟩
theorem nilDrop_any (w : World) (s : Int) : Calls Tryz.prog 17 #[.pointer none, .int .i64 s] w fun e w' => (∃ v, e = .returned v) ∧ w = w' := by
  go_enter Tryz.func17, Tryz.ntmps17
  go_wp2
  refine bodyPost_ret (results_none rfl _ _ _) rfl ?_
  exact ⟨⟨_, rfl⟩, rfl⟩
end Go.Proofs.YtleoeccjnchclaaGreatDoor
namespace Go.Proofs.YtleoeccjnchclaaGreatDoor
open Go.RowKit
theorem ls_new {fx fy : Int → List ByteArray} {s : Int} {k : ByteArray} {n : Nat} (h1 : k.size ≤ 1024) (h2 : k ∉ fx s) (hn : (fx s).length + (fy s).length = n) (h3 : n < 1024) : lsRes fx fy s k = (n + 1, 0, addF fx s k) := by
  unfold lsRes
  rw [if_neg (by omega), if_neg h2, hn, if_neg (by omega)]
theorem ls_there {fx fy : Int → List ByteArray} {s : Int} {k : ByteArray} {n : Nat} (h1 : k.size ≤ 1024) (h2 : k ∈ fx s) (hn : (fx s).length + (fy s).length = n) : lsRes fx fy s k = (n, 0, fx) := by
  unfold lsRes
  rw [if_neg (by omega), if_pos h2, hn]
theorem ls_long {fx fy : Int → List ByteArray} {s : Int} {k : ByteArray} (h1 : 1024 < k.size) : lsRes fx fy s k = (0, 2, fx) := by
  unfold lsRes
  rw [if_pos h1]
theorem ls_full {fx fy : Int → List ByteArray} {s : Int} {k : ByteArray} (h1 : k.size ≤ 1024) (h2 : k ∉ fx s) (h3 : 1024 ≤ (fx s).length + (fy s).length) : lsRes fx fy s k = (0, 4, fx) := by
  unfold lsRes
  rw [if_neg (by omega), if_neg h2, if_pos h3]
def f1 (s : Int) : List ByteArray := if s = 3 then [⟨#[97]⟩] else []
def f2 (s : Int) : List ByteArray := if s = 1 ∨ s = 3 then [⟨#[97]⟩] else []
def f3 (s : Int) : List ByteArray := if s = 1 then [⟨#[97]⟩] else []
def p1 (s : Int) : List ByteArray := if s = 3 then [⟨#[97, 42]⟩] else []
def zN (n : Nat) : ByteArray := ⟨(List.replicate n (0 : UInt8)).toArray⟩
theorem zN_size (n : Nat) : (zN n).size = n := by show (List.replicate n (0 : UInt8)).toArray.size = n; simp
def p2 (s : Int) : List ByteArray := if s = 5 then [zN 1024] else []
def nm (i : Nat) : ByteArray := ⟨#[UInt8.ofNat i, UInt8.ofNat (i / 256)]⟩
def fi (i : Nat) (s : Int) : List ByteArray := if s = 5 then (List.range i).map nm else []
theorem nm_size (i : Nat) : (nm i).size = 2 := rfl
theorem nm_inj {i j : Nat} (hi : i < 65536) (hj : j < 65536) (h : nm i = nm j) : i = j := by
  unfold nm at h
  simp only [ByteArray.mk.injEq, Array.mk.injEq, List.cons.injEq, and_true] at h
  obtain ⟨h1, h2⟩ := h
  have h1 := congrArg UInt8.toNat h1
  have h2 := congrArg UInt8.toNat h2
  simp only [UInt8.toNat_ofNat'] at h1 h2
  omega
theorem k1 : lsRes (fun _ => []) (fun _ => []) 3 ⟨#[97]⟩ = (1, 0, f1) := by
  rw [ls_new (n := 0) (by decide) (by simp) rfl (by decide)]
  refine congrArg (fun f => (1, 0, f)) (funext fun s => ?_)
  unfold addF f1
  by_cases e : s = 3 <;> simp [e]
theorem k2 : lsRes f1 (fun _ => []) 1 ⟨#[97]⟩ = (1, 0, f2) := by
  have e1 : f1 1 = [] := rfl
  rw [ls_new (n := 0) (by decide) (by rw [e1]; simp) (by rw [e1]; rfl) (by decide)]
  refine congrArg (fun f => (1, 0, f)) (funext fun s => ?_)
  unfold addF f1 f2
  by_cases e : s = 1
  · subst e; rfl
  · rw [if_neg e]; simp [e]
theorem k3 : lsRes (fun _ => []) f2 3 ⟨#[97, 42]⟩ = (2, 0, p1) := by
  rw [ls_new (n := 1) (by decide) (by simp) rfl (by decide)]
  refine congrArg (fun f => (2, 0, f)) (funext fun s => ?_)
  unfold addF p1
  by_cases e : s = 3 <;> simp [e]
theorem k4 : lsRes f2 p1 3 ⟨#[97]⟩ = (2, 0, f2) := ls_there (by decide) (by show _ ∈ [_]; simp) rfl
theorem k5 : delF f2 3 ⟨#[97]⟩ = f3 := funext fun s => by
  unfold delF f2 f3
  by_cases e : s = 3
  · subst e; rfl
  · rw [if_neg e]; simp [e]
theorem k6 : delF f3 3 ⟨#[122]⟩ = f3 := funext fun s => by
  unfold delF f3
  by_cases e : s = 3
  · subst e; rfl
  · rw [if_neg e]
theorem k7 : delF p1 3 ⟨#[97, 42]⟩ = fun _ => [] := funext fun s => by
  unfold delF p1
  by_cases e : s = 3
  · subst e; rfl
  · rw [if_neg e, if_neg e]
theorem k8 : cutF f3 1 = fun _ => [] := funext fun s => by
  unfold cutF f3
  by_cases e : s = 1
  · rw [if_pos e]
  · rw [if_neg e, if_neg e]
theorem k9 : cutF (fun _ => [] : Int → List ByteArray) 1 = fun _ => [] := funext fun s => by unfold cutF; split <;> rfl
theorem k10 : lsRes (fun _ => []) (fun _ => []) 5 (zN 1025) = (0, 2, fun _ => []) := ls_long (by rw [zN_size]; decide)
theorem k11 : lsRes (fun _ => []) (fun _ => []) 5 (zN 1024) = (1, 0, p2) := by
  rw [ls_new (n := 0) (by rw [zN_size]; decide) (by simp) rfl (by decide)]
  refine congrArg (fun f => (1, 0, f)) (funext fun s => ?_)
  unfold addF p2
  by_cases e : s = 5
  · rw [if_pos e, if_pos e]; rfl
  · rw [if_neg e, if_neg e]
theorem fi_zero : fi 0 = fun _ => [] := funext fun s => by unfold fi; split <;> rfl
theorem fi_five (i : Nat) : fi i 5 = (List.range i).map nm := by unfold fi; rw [if_pos rfl]
theorem p2_five : p2 5 = [zN 1024] := by unfold p2; rw [if_pos rfl]
theorem fi_len (i : Nat) : (fi i 5).length + (p2 5).length = i + 1 := by rw [fi_five, p2_five, List.length_map, List.length_range]; rfl
theorem k12 (i : Nat) (hi : i < 1023) : lsRes (fi i) p2 5 (nm i) = (i + 2, 0, fi (i + 1)) := by
  rw [ls_new (n := i + 1) (by rw [nm_size]; decide) ?_ (fi_len i) (by omega)]
  · refine congrArg (fun f => (i + 2, 0, f)) (funext fun s => ?_)
    unfold addF fi
    by_cases e : s = 5
    · rw [if_pos e, if_pos e, if_pos e, List.range_succ, List.map_append]; rfl
    · rw [if_neg e, if_neg e, if_neg e]
  · rw [fi_five]
    intro h
    obtain ⟨j, hj, e⟩ := List.mem_map.1 h
    have hj := List.mem_range.1 hj
    have := nm_inj (by omega) (by omega) e
    omega
theorem k13 {k : ByteArray} (hk : k.size ≤ 1023) : lsRes p2 (fi 1023) 5 k = (0, 4, p2) := by
  refine ls_full (by omega) ?_ ?_
  · rw [p2_five, List.mem_singleton]
    intro e
    have := congrArg ByteArray.size e
    rw [zN_size] at this
    omega
  · have := fi_len 1023
    omega
theorem k14 : lsRes (fi 1023) p2 5 (nm 7) = (1024, 0, fi 1023) := ls_there (by rw [nm_size]; decide) (by rw [fi_five]; exact List.mem_map.2 ⟨7, List.mem_range.2 (by decide), rfl⟩) (fi_len 1023)
theorem k15 (k : ByteArray) (hk : k.size ≤ 1024) : lsRes (fi 1023) p2 6 k = (1, 0, addF (fi 1023) 6 k) := by
  have e1 : fi 1023 6 = [] := by unfold fi; rw [if_neg (by decide)]
  have e2 : p2 6 = [] := by unfold p2; rw [if_neg (by decide)]
  exact ls_new (n := 0) hk (by rw [e1]; simp) (by rw [e1, e2]; rfl) (by decide)
theorem gm_a : gm ⟨#[97, 42]⟩ ⟨#[97]⟩ = true := by decide +kernel
theorem gm_ab : gm ⟨#[97, 42]⟩ ⟨#[97, 98]⟩ = true := by decide +kernel
theorem gm_z : gm (zN 1024) ⟨#[97]⟩ = false := by
  unfold gm
  rw [signs_plain (bl (zN 1024)) (fun c hc => ?_), means_text]
  · refine decide_eq_false fun e => ?_
    have := congrArg List.length e
    rw [bl_len, bl_len, zN_size] at this
    cases this
  · have : c = 0 := by
      have h : c ∈ (List.replicate 1024 (0 : UInt8)) := hc
      exact (List.mem_replicate.1 h).2
    rw [this]
    decide
/-- what the examples tell -/
theorem o1 : [(1 : Int), 3].flatMap (nameL f2 ⟨#[97]⟩ ⟨#[120]⟩) ++ [(1 : Int), 3].flatMap (patL p1 ⟨#[97]⟩ ⟨#[120]⟩) = [msgL 1 ⟨#[97]⟩ ⟨#[120]⟩, msgL 3 ⟨#[97]⟩ ⟨#[120]⟩, pmsgL 3 ⟨#[97, 42]⟩ ⟨#[97]⟩ ⟨#[120]⟩] := by
  have e1 : f2 1 = [⟨#[97]⟩] := rfl
  have e3 : f2 3 = [⟨#[97]⟩] := rfl
  have q1 : p1 1 = [] := rfl
  have q3 : p1 3 = [⟨#[97, 42]⟩] := rfl
  rw [List.flatMap_cons, List.flatMap_singleton, List.flatMap_cons, List.flatMap_singleton, nameL_eq (by rw [e1]; simp), nameL_eq (by rw [e3]; simp), if_pos (by rw [e1]; simp), if_pos (by rw [e3]; simp)]
  unfold patL
  have hs : sortS ([] : List ByteArray) = [] := by simp [sortS]
  have ht : sortS [(⟨#[97, 42]⟩ : ByteArray)] = [⟨#[97, 42]⟩] := List.perm_singleton.1 (sortS_perm _)
  rw [q1, q3, hs, ht, List.filter_nil, List.map_nil, List.nil_append, List.filter_cons, if_pos gm_a]
  rfl
theorem o2 : [(1 : Int), 3].flatMap (nameL f2 ⟨#[97, 98]⟩ ⟨#[121]⟩) ++ [(1 : Int), 3].flatMap (patL p1 ⟨#[97, 98]⟩ ⟨#[121]⟩) = [pmsgL 3 ⟨#[97, 42]⟩ ⟨#[97, 98]⟩ ⟨#[121]⟩] := by
  have e1 : f2 1 = [⟨#[97]⟩] := rfl
  have e3 : f2 3 = [⟨#[97]⟩] := rfl
  have q1 : p1 1 = [] := rfl
  have q3 : p1 3 = [⟨#[97, 42]⟩] := rfl
  rw [List.flatMap_cons, List.flatMap_singleton, List.flatMap_cons, List.flatMap_singleton, nameL_eq (by rw [e1]; simp), nameL_eq (by rw [e3]; simp), if_neg (by rw [e1]; simp), if_neg (by rw [e3]; simp)]
  unfold patL
  have hs : sortS ([] : List ByteArray) = [] := by simp [sortS]
  have ht : sortS [(⟨#[97, 42]⟩ : ByteArray)] = [⟨#[97, 42]⟩] := List.perm_singleton.1 (sortS_perm _)
  rw [q1, q3, hs, ht, List.filter_nil, List.map_nil, List.nil_append, List.filter_cons, if_pos gm_ab]
  rfl
theorem o3 : [(5 : Int)].flatMap (nameL (fun _ => []) ⟨#[97]⟩ ⟨#[120]⟩) ++ [(5 : Int)].flatMap (patL p2 ⟨#[97]⟩ ⟨#[120]⟩) = [] := by
  rw [List.flatMap_singleton, List.flatMap_singleton, nameL_eq List.nodup_nil, if_neg (by simp)]
  unfold patL
  rw [p2_five]
  have ht : sortS [zN 1024] = [zN 1024] := List.perm_singleton.1 (sortS_perm _)
  rw [ht, List.filter_cons, if_neg (by rw [gm_z]; decide)]
  rfl
theorem c1 : ([(1 : Int), 3].flatMap (nameL f2 ⟨#[97]⟩ ⟨#[120]⟩)).length = 2 := by
  have e1 : f2 1 = [⟨#[97]⟩] := rfl
  have e3 : f2 3 = [⟨#[97]⟩] := rfl
  rw [List.flatMap_cons, List.flatMap_singleton, nameL_eq (by rw [e1]; simp), nameL_eq (by rw [e3]; simp), if_pos (by rw [e1]; simp), if_pos (by rw [e3]; simp)]
  rfl
theorem nm1 : Named (f2, p1) [1, 3] := ⟨fun s h => by
    have h : f2 s ≠ [] := h
    unfold f2 at h
    by_cases e : s = 1 ∨ s = 3
    · rcases e with e | e <;> simp [e]
    · rw [if_neg e] at h; exact absurd rfl h,
  fun s h => by
    have h : p1 s ≠ [] := h
    unfold p1 at h
    by_cases e : s = 3
    · simp [e]
    · rw [if_neg e] at h; exact absurd rfl h⟩
theorem nm2 : Named (fun _ => [], p2) [5] := ⟨fun s h => absurd rfl h, fun s h => by
    have h : p2 s ≠ [] := h
    unfold p2 at h
    by_cases e : s = 5
    · simp [e]
    · rw [if_neg e] at h; exact absurd rfl h⟩
theorem sm1 : Sm (f2, p1) := by
  refine ⟨fun s x hx => ?_, fun s x hx => ?_⟩
  · have hx : x ∈ f2 s := hx
    unfold f2 at hx
    split at hx
    · rw [List.mem_singleton.1 hx]; decide
    · cases hx
  · have hx : x ∈ p1 s := hx
    unfold p1 at hx
    split at hx
    · rw [List.mem_singleton.1 hx]; decide
    · cases hx
theorem sm2 : Sm (fun _ => [], p2) := by
  refine ⟨fun s x hx => (by cases hx), fun s x hx => ?_⟩
  have hx : x ∈ p2 s := hx
  unfold p2 at hx
  split at hx
  · rw [List.mem_singleton.1 hx, zN_size]; decide
  · cases hx
end Go.Proofs.YtleoeccjnchclaaGreatDoor
namespace Go.Proofs.YtleoeccjnchclaaGreatDoor
open Go.RowKit
/-- a hub, of this call -/
def Kn (w0 w : World) (N h : Nat) (fc fp : Int → List ByteArray) : Prop := ∃ F : Nat → Prop, HubT w w0.heap.size F N h fc fp ∧ Fr (fun k => w0.heap.size ≤ k) w0 w
section
variable {w0 w w' : World} {N h : Nat} {fc fp f : Int → List ByteArray}
theorem Kn.quiet (H : Kn w0 w N h fc fp) (hf : Fr (fun _ => False) w w') : Kn w0 w' N h fc fp := by
  obtain ⟨F, h1, h2⟩ := H
  exact ⟨F, h1.quiet hf, h2.wide hf (fun _ h => h.elim)⟩
theorem Kn.step {F : Nat → Prop} {fc' fp' : Int → List ByteArray} {N' : Nat} (h1 : HubT w w0.heap.size F N h fc fp) (h2 : Fr (fun k => w0.heap.size ≤ k) w0 w) (hf : Fr F w w') (hT : HubT w' w0.heap.size (Grew F w w') N' h fc' fp') : Kn w0 w' N' h fc' fp' :=
  ⟨_, hT, h2.wide hf (fun i hi => .inl (h1.lt i hi).1)⟩
theorem Kn.below (H : Kn w0 w N h fc fp) : Below w0.heap.size w0 w := by
  obtain ⟨F, h1, h2⟩ := H
  exact h2.below (Nat.le_refl _) (fun _ h => h)
theorem kn_listen (H : Kn w0 w N h fc fp) (hN : N ≤ 4398046511104) (s : Int) (k : ByteArray) (hs : kI.ok s) (hk : k.size ≤ maxLen) {n c : Nat} (e : lsRes fc fp s k = (n, c, f)) :
    Calls Tryz.prog 9 #[.pointer (some ⟨h, 0, none⟩), .int .i64 s, .string k] w fun e w' => e = .returned (.tuple #[.int .i64 n, .int .i64 c]) ∧ Kn w0 w' (N + 1) h f fp := by
  obtain ⟨F, h1, h2⟩ := H
  have h3 := hubListen_any h1 h2.size hN s k hs hk
  rw [e] at h3
  exact h3.mono fun e w' ⟨q1, q2, q3⟩ => ⟨q1, Kn.step h1 h2 q2 q3⟩
theorem kn_like (H : Kn w0 w N h fc fp) (hN : N ≤ 4398046511104) (s : Int) (k : ByteArray) (hs : kI.ok s) (hk : k.size ≤ maxLen) {n c : Nat} (e : lsRes fp fc s k = (n, c, f)) :
    Calls Tryz.prog 11 #[.pointer (some ⟨h, 0, none⟩), .int .i64 s, .string k] w fun e w' => e = .returned (.tuple #[.int .i64 n, .int .i64 c]) ∧ Kn w0 w' (N + 1) h fc f := by
  obtain ⟨F, h1, h2⟩ := H
  have h3 := hubLike_any h1 h2.size hN s k hs hk
  rw [e] at h3
  exact h3.mono fun e w' ⟨q1, q2, q3⟩ => ⟨q1, Kn.step h1 h2 q2 q3⟩
theorem kn_leave (H : Kn w0 w N h fc fp) (s : Int) (k : ByteArray) (hs : kI.ok s) (hk : k.size ≤ maxLen) {n : Nat} (e : delF fc s k = f) (hn : (f s).length + (fp s).length = n) :
    Calls Tryz.prog 13 #[.pointer (some ⟨h, 0, none⟩), .int .i64 s, .string k] w fun e w' => e = .returned (.int .i64 n) ∧ Kn w0 w' N h f fp := by
  obtain ⟨F, h1, h2⟩ := H
  have h3 := hubLeave_any h1 h2.size s k hs hk
  rw [e, hn] at h3
  exact h3.mono fun e w' ⟨q1, q2, q3⟩ => ⟨q1, Kn.step h1 h2 q2 q3⟩
theorem kn_leaveLike (H : Kn w0 w N h fc fp) (s : Int) (k : ByteArray) (hs : kI.ok s) (hk : k.size ≤ maxLen) {n : Nat} (e : delF fp s k = f) (hn : (fc s).length + (f s).length = n) :
    Calls Tryz.prog 15 #[.pointer (some ⟨h, 0, none⟩), .int .i64 s, .string k] w fun e w' => e = .returned (.int .i64 n) ∧ Kn w0 w' N h fc f := by
  obtain ⟨F, h1, h2⟩ := H
  have h3 := hubLeaveLike_any h1 h2.size s k hs hk
  rw [e, hn] at h3
  exact h3.mono fun e w' ⟨q1, q2, q3⟩ => ⟨q1, Kn.step h1 h2 q2 q3⟩
theorem kn_drop (H : Kn w0 w N h fc fp) (s : Int) (hs : kI.ok s) (hk : ∀ x ∈ fc s, x.size ≤ maxLen) {f' : Int → List ByteArray} (e1 : cutF fc s = f) (e2 : cutF fp s = f') :
    Calls Tryz.prog 17 #[.pointer (some ⟨h, 0, none⟩), .int .i64 s] w fun e w' => (∃ v, e = .returned v) ∧ Kn w0 w' N h f f' := by
  obtain ⟨F, h1, h2⟩ := H
  have h3 := hubDrop_any h1 h2.size s hs hk
  rw [e1, e2] at h3
  exact h3.mono fun e w' ⟨q1, q2, q3⟩ => ⟨q1, Kn.step h1 h2 q2 q3⟩
theorem kn_tell (H : Kn w0 w N h fc fp) (hN : N ≤ 2199023255488) (hs : Sm (fc, fp)) (k text : ByteArray) (hk : k.size < 4611686018427387904) {Z : List Int} (hZ : Z.Pairwise (· < ·)) (hz : Named (fc, fp) Z) {O : List Ot} (e : Z.flatMap (nameL fc k text) ++ Z.flatMap (patL fp k text) = O) :
    Calls Tryz.prog 19 #[.pointer (some ⟨h, 0, none⟩), .string k, .string text] w fun e w' => Kn w0 w' N h fc fp ∧ TellC w O e w' := by
  obtain ⟨F, h1, h2⟩ := H
  have h3 := tellT_any h1 hN hs k text hk hZ hz
  rw [e] at h3
  refine h3.mono fun e w' hp => ⟨?_, hp⟩
  obtain ⟨a, c, _, _, hf, _⟩ := hp
  exact Kn.quiet ⟨F, h1, h2⟩ hf
theorem kn_count (H : Kn w0 w N h fc fp) (k text : ByteArray) (hk : k.size ≤ maxLen) {Z : List Int} (hZ : Z.Pairwise (· < ·)) (hz : Named (fc, fp) Z) {n : Nat} (e : (Z.flatMap (nameL fc k text)).length = n) :
    Calls Tryz.prog 21 #[.pointer (some ⟨h, 0, none⟩), .string k] w fun e w' => e = .returned (.int .i64 n) ∧ w = w' := by
  obtain ⟨F, h1, h2⟩ := H
  rw [← e]
  exact countT_any h1 k text hk hZ hz
end
theorem info_u8k : (Tryz.prog.info? 5).map (fun i => (i.zero, i.size, i.bytes)) = some (some (.int .u8 0), 1, 1) := by kernel_rfl
theorem zero_made (n : Nat) (hn : n ≤ 2097152) : ∃ (cs : Array Value), (∀ w : World, (Instr.makeSlice 59 (.int .i64 n) (.int .i64 n)).run Tryz.prog w = .ok (.slice (some ⟨w.heap.size, 0, none⟩) n n) (w.alloc (.cells cs 5))) ∧
    ∀ w : World, (convert 59 9 (.slice (some ⟨w.heap.size, 0, none⟩) n n)).run Tryz.prog (w.alloc (.cells cs 5)) = .ok (.string (zN n)) (w.alloc (.cells cs 5)) := by
  obtain ⟨i0, hi, hz0, hz1, hz2⟩ := info_parts info_u8k
  refine ⟨((List.replicate n (0 : UInt8)).map u8).toArray, fun w => ?_, fun w => ?_⟩
  · have h := run_make (P := Tryz.prog) (w := w) 59 5 i0 (.int .u8 0) Tryz.underlying59 hi hz0 .i64 .i64 n n (by omega) (by omega) (by rw [hz2]; omega) (by omega)
    rw [h, hz1, Nat.mul_one, Int.toNat_natCast, show (Value.int IntKind.u8 0).cells = #[.int .u8 0] from rfl, madeCells_one, List.map_replicate]
    rfl
  · have hr := RdC.of_owns (World.ownsRow_lit (base := w.heap.size) (e := 5) (size := 1) w ((List.replicate n (0 : UInt8)).map u8).toArray n (Nat.le_refl _) (by unfold maxLen; omega) (by simp))
    obtain ⟨h1, ad, cap, e, h2, h3, h4, h5⟩ := hr
    cases e
    have h6 := run_convert_bytes_back (P := Tryz.prog) (w.alloc (.cells ((List.replicate n (0 : UInt8)).map u8).toArray 5)) 59 9 5 ⟨w.heap.size, 0, none⟩ n (List.replicate n (0 : UInt8)) Tryz.underlying59 Tryz.underlying5 Tryz.underlying9 (fun j hj => h5 _ rfl j _ (by rw [List.getElem?_map, List.getElem?_eq_getElem hj]; rfl))
    rw [List.length_replicate] at h6
    exact h6
/-- a text of two bytes -/
theorem two_made (a b : UInt8) (w : World) : (convert 59 9 (.slice (some ⟨w.heap.size, 0, none⟩) 2 2)).run Tryz.prog (w.alloc (.cells #[.int .u8 a.toNat, .int .u8 b.toNat] 5)) = .ok (.string ⟨#[a, b]⟩) (w.alloc (.cells #[.int .u8 a.toNat, .int .u8 b.toNat] 5)) := by
  have hr := RdC.of_owns (World.ownsRow_lit (base := w.heap.size) (e := 5) (size := 1) w #[.int .u8 a.toNat, .int .u8 b.toNat] 2 (Nat.le_refl _) (by decide) rfl)
  obtain ⟨h1, ad, cap, e, h2, h3, h4, h5⟩ := hr
  cases e
  exact run_convert_bytes_back (P := Tryz.prog) (w.alloc (.cells #[.int .u8 a.toNat, .int .u8 b.toNat] 5)) 59 9 5 ⟨w.heap.size, 0, none⟩ 2 [a, b] Tryz.underlying59 Tryz.underlying5 Tryz.underlying9 (fun j hj => h5 _ rfl j _ (by
    match j, hj with
    | 0, _ => rfl
    | 1, _ => rfl))
end Go.Proofs.YtleoeccjnchclaaGreatDoor
