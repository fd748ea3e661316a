/- Flocks. No condition. -/
import Derived.Test.YtgomilodeaafdaaBr
import Derived.Test.YtgomilodeaafdaaBu
import Derived.Test.YtgomilodeaafdaaBa
import Derived.Deep.Cut
import Derived.Test.YtgomilodeaafdaaShelf
import Derived.Shelf.Slices.In.SortNone
import Derived.Sort.OwnSorted
import Derived.Test.YtgomilodeaafdaaBv
import Derived.Laws.MakeOwn
import Derived.Laws.NewBlocks
import Derived.OwnWalkIn
import Derived.Test.YtgomilodeaafdaaBw
import Derived.Maps.OwnSet
import Derived.Maps.RangeWalk
import Derived.Sort.KeysCollected
import Derived.Test.YtgomilodeaafdaaBb
import Derived.Test.YtgomilodeaafdaaShelfD
import Derived.Lib.SliceRun
import Derived.Deep.CutBlock
import Derived.Deep.QuietTactic
import Derived.BigQuiet
import Derived.Deep.Fields
namespace Go.Proofs.Ytgomilodeaafdaa
abbrev Me := ByteArray × Unit
def prM (x : Me) : Nat := 24 + x.1.size
def costM (A : List Me) : Nat := (A.map prM).sum
theorem costM_nil : costM [] = 0 := rfl
theorem costM_cons (x : Me) (A : List Me) : costM (x :: A) = prM x + costM A := by unfold costM; rw [List.map_cons, List.sum_cons]
theorem costM_perm {A A' : List Me} (h : A.Perm A') : costM A = costM A' := by
  induction h with
  | nil => rfl
  | cons x _ ih => rw [costM_cons, costM_cons, ih]
  | swap x y l => rw [costM_cons, costM_cons, costM_cons, costM_cons]; omega
  | trans _ _ ih1 ih2 => exact ih1.trans ih2
theorem costM_at {A : List Me} {i : Nat} {x : Me} (h : A[i]? = some x) : costM A = prM x + costM (A.eraseIdx i) := by rw [costM_perm (permG_erase A i x h), costM_cons]
theorem costM_set {A : List Me} {i : Nat} (y : Me) (h : i < A.length) : costM (A.set i y) = prM y + costM (A.eraseIdx i) := by rw [costM_perm (permG_set A i y h), costM_cons]
theorem costM_snoc (A : List Me) (x : Me) : costM (A ++ [x]) = costM A + prM x := by
  rw [costM_perm (List.perm_append_singleton x A), costM_cons, Nat.add_comm]
/-- texts that may be members -/
def FitM (x : Me) : Prop := x.1.size ≤ 1048576
theorem costM_le {A : List Me} (h : ∀ x ∈ A, FitM x) : costM A ≤ A.length * 1048600 := by
  induction A with
  | nil => exact Nat.le_refl _
  | cons a A ih =>
    have h1 := ih (fun x hx => h x (List.mem_cons_of_mem _ hx))
    have h2 := h a (List.mem_cons_self ..)
    rw [costM_cons, List.length_cons, Nat.add_mul]
    unfold prM
    unfold FitM at h2
    omega
theorem fitM_set {A : List Me} {key : ByteArray} (h : ∀ x ∈ A, FitM x) (hk : FitM (key, ())) : ∀ x ∈ setG A key (), FitM x := by
  intro x hx
  unfold setG at hx
  cases ha : fdG key A with
  | some i =>
    rw [ha] at hx
    rcases List.mem_or_eq_of_mem_set hx with hx | rfl
    · exact h x hx
    · exact hk
  | none =>
    rw [ha] at hx
    rcases List.mem_append.1 hx with hx | hx
    · exact h x hx
    · rw [List.mem_singleton.1 hx]; exact hk
theorem fitM_del {A : List Me} {key : ByteArray} (h : ∀ x ∈ A, FitM x) : ∀ x ∈ delG A key, FitM x := by
  intro x hx
  unfold delG at hx
  cases ha : fdG key A with
  | some i => rw [ha] at hx; exact h x (List.mem_of_mem_eraseIdx hx)
  | none => rw [ha] at hx; exact h x hx
end Go.Proofs.Ytgomilodeaafdaa
namespace Go.Proofs.Ytgomilodeaafdaa
open Go.RowKit Du
/-- a flock whose blocks are of F -/
structure FloF (w : World) (B : Nat) (F : Nat → Prop) (r d : Nat) (M : DM) (A : List Me) : Prop where
  blk : w.heap[r]? = some (.cells #[.int .u64 (wd M.seed), .pointer (some ⟨d, 0, none⟩), .int .i64 (costM A : Nat)] 152 (0, 0))
  dat : DAt w d M
  like : LikeG vl M A
  fr : F r
  fd : ∀ k, Bs (dictL d M) k → F k
  rd : ¬ Bs (dictL d M) r
  lt : ∀ k, F k → B ≤ k ∧ k < w.heap.size
  len : A.length ≤ 1048576
  fit : ∀ x ∈ A, FitM x
section
variable {w w' : World} {B B' r d : Nat} {F T : Nat → Prop} {M M' : DM} {A A' : List Me}
theorem FloF.other (h : FloF w B F r d M A) (hf : Fr T w w') (hd : ∀ k, F k → ¬ T k) : FloF w' B F r d M A :=
  ⟨(hf.block r (h.lt r h.fr).2 (hd r h.fr)).trans h.blk, h.dat.fr hf (fun k hk => hd k (h.fd k hk)), h.like, h.fr, h.fd, h.rd, fun k hk => ⟨(h.lt k hk).1, Nat.lt_of_lt_of_le (h.lt k hk).2 hf.size⟩, h.len, h.fit⟩
theorem FloF.quiet (h : FloF w B F r d M A) (hf : Fr (fun _ => False) w w') : FloF w' B F r d M A := h.other hf (fun _ _ h => h)
theorem FloF.base (h : FloF w B F r d M A) (hb : B' ≤ B) : FloF w B' F r d M A :=
  ⟨h.blk, h.dat, h.like, h.fr, h.fd, h.rd, fun k hk => ⟨Nat.le_trans hb (h.lt k hk).1, (h.lt k hk).2⟩, h.len, h.fit⟩
theorem FloF.perm (h : FloF w B F r d M A) (hp : A.Perm A') : FloF w B F r d M A' :=
  ⟨by rw [← costM_perm hp]; exact h.blk, h.dat, h.like.of_perm hp, h.fr, h.fd, h.rd, h.lt, by rw [← hp.length_eq]; exact h.len, fun x hx => h.fit x (hp.mem_iff.2 hx)⟩
/-- the dict is turned -/
theorem FloF.turn (h : FloF w B F r d M A) (hB : B ≤ w.heap.size) (ht : Turn w d M w' M') (hl : LikeG vl M' A) (hs : M'.seed = M.seed) : FloF w' B (Grew F w w') r d M' A ∧ Fr F w w' := by
  have hfr : Fr F w w' := ht.fr.mono (fun i hi _ => h.fd i hi)
  refine ⟨⟨?_, ht.at_, hl, .inl h.fr, fun k hk => ?_, fun hb => ?_, fun k hk => ?_, h.len, h.fit⟩, hfr⟩
  · rw [hs]; exact (ht.fr.block r (h.lt r h.fr).2 h.rd).trans h.blk
  · exact (ht.bs k hk).elim (fun h1 => .inl (h.fd k h1)) (fun h1 => .inr ⟨h1, ht.at_.rep.lt hk⟩)
  · exact (ht.bs r hb).elim h.rd (fun h1 => absurd (h.lt r h.fr).2 (by omega))
  · rcases hk with hk | hk
    · exact ⟨(h.lt k hk).1, Nat.lt_of_lt_of_le (h.lt k hk).2 hfr.size⟩
    · exact ⟨Nat.le_trans hB hk.1, hk.2⟩
/-- its cost is set -/
theorem FloF.cost0 (h : FloF w B F r d M A) : w.cell? ⟨r, 2, none⟩ = some (.int .i64 (costM A : Nat)) := cell_of_blk h.blk 2
theorem FloF.dict0 (h : FloF w B F r d M A) : w.cell? ⟨r, 1, none⟩ = some (.pointer (some ⟨d, 0, none⟩)) := cell_of_blk h.blk 1
theorem FloF.seed0 (h : FloF w B F r d M A) : w.cell? ⟨r, 0, none⟩ = some (.int .u64 (wd M.seed)) := cell_of_blk h.blk 0
theorem FloF.free (h : FloF w B F r d M A) (i : Nat) : w.frozen? ⟨r, i, none⟩ = false := free_of_blk h.blk i
end
/-- what a call that turns a record leaves -/
def FloGot (w : World) (B : Nat) (F : Nat → Prop) (r d : Nat) (M : DM) (A : List Me) (w' : World) : Prop :=
  FloF w' B (Grew F w w') r d M A ∧ Fr F w w'
theorem floNew_any (w : World) (seed : UInt64) : Calls Try.prog 34 #[.int .u64 (wd seed)] w fun e w' => ∃ r d, e = .returned (.pointer (some ⟨r, 0, none⟩)) ∧ FloF w' w.heap.size (fun k => w.heap.size ≤ k ∧ k < w'.heap.size) r d ⟨seed, 0, [], 0, [], 0, 0⟩ [] ∧ Below w.heap.size w w' := by
  have HN := fun w => Lib.hid (new_G w seed)
  go_enter Try.func34, Try.ntmps34
  go_wp2_with (refine (HN _).out.mono ?_; rintro e w1 ⟨rfl, D1, B1, rfl⟩)
  go_ret
  refine ⟨w.heap.size + 1, w.heap.size, rfl, ⟨?_, D1.fr (Fr.alloc (fun _ => False) _ _) (fun _ _ h => h), LikeG.new seed, ⟨by omega, by simp⟩, fun k hk => ?_, fun hb => ?_, fun k hk => hk, by decide, fun x hx => by cases hx⟩, ?_⟩
  · have h := alloc_new (w.alloc (fieldsO 212 ⟨seed, 0, [], 0, [], 0, 0⟩)) (.cells #[.int .u64 (wd seed), .pointer (some ⟨w.heap.size, 0, none⟩), .int .i64 0] 152)
    rw [World.size_alloc] at h
    exact h
  · have := B1 k hk
    subst this
    exact ⟨Nat.le_refl _, by simp; omega⟩
  · have := B1 _ hb
    omega
  · exact ((Below.refl _ _).alloc (Nat.le_refl _) _).alloc (by simp) _
theorem floLen_any (w : World) (B : Nat) (F : Nat → Prop) (r d : Nat) (M : DM) (A : List Me) (h : FloF w B F r d M A) : Calls Try.prog 66 #[.pointer (some ⟨r, 0, none⟩)] w fun e w' => e = .returned (.int .i64 A.length) ∧ w = w' := by
  have HL := Lib.hid (len_G w d M A A.length h.dat h.like (by have := h.len; omega) rfl)
  have c1 := h.dict0
  clear h
  go_enter Try.func66, Try.ntmps66
  go_wp2_with (refine HL.out.mono ?_; rintro e w1 ⟨rfl, rfl⟩)
  go_ret
  exact ⟨rfl, rfl⟩
theorem FloF.wide {w : World} {B r d : Nat} {F F' : Nat → Prop} {M : DM} {A : List Me} (h : FloF w B F r d M A) (hF : ∀ k, F k → F' k) (hl : ∀ k, F' k → B ≤ k ∧ k < w.heap.size) : FloF w B F' r d M A :=
  ⟨h.blk, h.dat, h.like, hF r h.fr, fun k hk => hF k (h.fd k hk), h.rd, hl, h.len, h.fit⟩
theorem FloGot.quiet {w w1 w2 : World} {B r d : Nat} {F : Nat → Prop} {M : DM} {A : List Me} (h : FloGot w B F r d M A w1) (hf : Fr (fun _ => False) w1 w2) (hB : B ≤ w.heap.size) (hF : ∀ k, F k → B ≤ k ∧ k < w.heap.size) : FloGot w B F r d M A w2 := by
  have hs := h.2.size
  have hs2 := hf.size
  refine ⟨(h.1.quiet hf).wide (fun k hk => hk.imp id (fun g => ⟨g.1, by omega⟩)) (fun k hk => ?_), h.2.wide hf (fun i hi => hi.elim)⟩
  rcases hk with hk | hk
  · have := hF k hk; exact ⟨this.1, by omega⟩
  · exact ⟨by omega, hk.2⟩
theorem valU (A : List Me) (key : ByteArray) : valG A key = .agg #[] := by
  unfold valG
  cases fdG key A with
  | none => rfl
  | some i => cases hA : A[i]? <;> simp [hA] <;> rfl
theorem floHas_any (w : World) (B : Nat) (F : Nat → Prop) (r d : Nat) (M : DM) (A : List Me) (key : ByteArray) (h : FloF w B F r d M A) (hB : B ≤ w.heap.size) (hs : key.size ≤ maxLen) :
    Calls Try.prog 52 #[.pointer (some ⟨r, 0, none⟩), .string key] w fun e w' => e = .returned (.bool (fdG key A).isSome) ∧ FloGot w B F r d (stepM M) A w' := by
  have HL := Lib.hid (get_G w d M A key hs h.dat h.like)
  have c1 := h.dict0
  have H := Lib.hid h
  obtain ⟨b, hb⟩ : ∃ b, (fdG key A).isSome = b := ⟨_, rfl⟩
  rw [hb, valU] at HL
  rw [hb]
  clear h hb
  go_enter Try.func52, Try.ntmps52
  go_wp2_with (refine HL.out.mono ?_; rintro e w1 ⟨rfl, T1, L1⟩)
  go_ret
  exact ⟨rfl, FloGot.quiet (H.out.turn hB T1 L1 (step_lens M).2.2.1) (Fr.alloc _ _ _) hB H.out.lt⟩
theorem FloGot.trans {w w1 w2 : World} {B r d : Nat} {F : Nat → Prop} {M M' : DM} {A A' : List Me} (h : FloGot w B F r d M A w1) (k : FloGot w1 B (Grew F w w1) r d M' A' w2) (hB : B ≤ w.heap.size) (hF : ∀ k, F k → B ≤ k ∧ k < w.heap.size) : FloGot w B F r d M' A' w2 := by
  have hs := h.2.size
  have hs2 := k.2.size
  refine ⟨k.1.wide (fun i hi => ?_) (fun i hi => ?_), h.2.wide k.2 (fun i hi => hi.elim .inl (fun h => .inr h.1))⟩
  · rcases hi with (hi | hi) | hi
    · exact .inl hi
    · exact .inr ⟨hi.1, by omega⟩
    · exact .inr ⟨by omega, hi.2⟩
  · rcases hi with hi | hi
    · have := hF i hi; exact ⟨this.1, by omega⟩
    · exact ⟨by omega, hi.2⟩
theorem FloF.turnC {w w3 w' : World} {B r d : Nat} {F : Nat → Prop} {M M' : DM} {A A' : List Me} (h : FloF w B F r d M A) (hB : B ≤ w.heap.size)
    (hw : w3.heap[r]? = some (.cells #[.int .u64 (wd M.seed), .pointer (some ⟨d, 0, none⟩), .int .i64 (costM A' : Nat)] 152 (0, 0))) (hf3 : Fr (fun k => k = r) w w3) (ht : Turn w3 d M w' M') (hl : LikeG vl M' A') (hs : M'.seed = M.seed)
    (hlen : A'.length ≤ 1048576) (hfit : ∀ x ∈ A', FitM x) : FloGot w B F r d M' A' w' := by
  have hsz := hf3.size
  have hfr : Fr F w w' := (hf3.mono (T := F) (fun i hi _ => by rw [hi]; exact h.fr)).wide ht.fr (fun i hi => .inl (h.fd i hi))
  refine ⟨⟨?_, ht.at_, hl, .inl h.fr, fun k hk => ?_, fun hb => ?_, fun k hk => ?_, hlen, hfit⟩, hfr⟩
  · rw [hs]; exact (ht.fr.block r (by have := (h.lt r h.fr).2; omega) h.rd).trans hw
  · exact (ht.bs k hk).elim (fun h1 => .inl (h.fd k h1)) (fun h1 => .inr ⟨by omega, ht.at_.rep.lt hk⟩)
  · exact (ht.bs r hb).elim h.rd (fun h1 => absurd (h.lt r h.fr).2 (by omega))
  · rcases hk with hk | hk
    · exact ⟨(h.lt k hk).1, Nat.lt_of_lt_of_le (h.lt k hk).2 hfr.size⟩
    · exact ⟨Nat.le_trans hB hk.1, hk.2⟩
end Go.Proofs.Ytgomilodeaafdaa
namespace Go.Proofs.Ytgomilodeaafdaa
open Go.RowKit Du
/-- the flock's block with another cost -/
theorem flo_cost {w : World} {r d : Nat} {s c : Value} (h : w.heap[r]? = some (.cells #[s, .pointer (some ⟨d, 0, none⟩), c] 152 (0, 0))) (c' : Value) :
    (w.setCell ⟨r, 2, none⟩ c').heap[r]? = some (.cells #[s, .pointer (some ⟨d, 0, none⟩), c'] 152 (0, 0)) := by
  rw [heap_setCell_same w r 2 _ _ c' h]
  rfl
theorem floAdd_long (w : World) (r : Nat) (key : ByteArray) (hk : key.size ≤ maxLen) (h : 1048576 < key.size) :
    Calls Try.prog 41 #[.pointer (some ⟨r, 0, none⟩), .string key] w fun e w' => e = .returned (.tuple #[.bool false, .int .i64 2]) ∧ w = w' := by
  have g1 : decide (1048576 < (key.size : Int)) = true := by rw [decide_eq_true_eq]; omega
  go_enter Try.func41, Try.ntmps41
  go_wp2
  go_ret2
  exact ⟨rfl, rfl⟩
theorem floAdd_nil (w : World) (key : ByteArray) :
    Calls Try.prog 41 #[.pointer none, .string key] w fun e w' => e = .returned (.tuple #[.bool false, .int .i64 1]) ∧ w = w' := by
  go_enter Try.func41, Try.ntmps41
  go_wp2
  go_ret2
  exact ⟨rfl, rfl⟩
theorem floAdd_there (w : World) (B : Nat) (F : Nat → Prop) (r d : Nat) (M : DM) (A : List Me) (key : ByteArray) (i : Nat) (h : FloF w B F r d M A) (hB : B ≤ w.heap.size) (hf : key.size ≤ 1048576) (ha : fdG key A = some i) :
    Calls Try.prog 41 #[.pointer (some ⟨r, 0, none⟩), .string key] w fun e w' => e = .returned (.tuple #[.bool false, .int .i64 0]) ∧ FloGot w B F r d (stepM M) A w' := by
  have HG := Lib.hid (floHas_any w B F r d M A key h hB (by unfold maxLen; omega))
  rw [ha] at HG
  have g1 : decide (1048576 < (key.size : Int)) = false := by rw [decide_eq_false_iff_not]; omega
  clear h ha
  go_enter Try.func41, Try.ntmps41
  go_wp2_with fail
  refine HG.out.mono ?_
  rintro e w1 ⟨rfl, R1⟩
  have HR1 := Lib.hid R1
  clear R1
  go_wp2_with fail
  go_ret2
  exact ⟨rfl, HR1.out⟩
theorem floAdd_full (w : World) (B : Nat) (F : Nat → Prop) (r d : Nat) (M : DM) (A : List Me) (key : ByteArray) (h : FloF w B F r d M A) (hB : B ≤ w.heap.size) (hf : key.size ≤ 1048576) (ha : fdG key A = none) (hl : 1048576 ≤ A.length) :
    Calls Try.prog 41 #[.pointer (some ⟨r, 0, none⟩), .string key] w fun e w' => e = .returned (.tuple #[.bool false, .int .i64 4]) ∧ FloGot w B F r d (stepM M) A w' := by
  have HG := Lib.hid (floHas_any w B F r d M A key h hB (by unfold maxLen; omega))
  rw [ha] at HG
  have g1 : decide (1048576 < (key.size : Int)) = false := by rw [decide_eq_false_iff_not]; omega
  have g2 : decide (1048576 ≤ (A.length : Int)) = true := by rw [decide_eq_true_eq]; omega
  clear h ha
  go_enter Try.func41, Try.ntmps41
  go_wp2_with fail
  refine HG.out.mono ?_
  rintro e w1 ⟨rfl, R1⟩
  have HR1 := Lib.hid R1
  have HL := Lib.hid (floLen_any w1 B _ r d _ A R1.1)
  clear R1
  go_wp2_with fail
  refine HL.out.mono ?_
  rintro e w' ⟨rfl, rfl⟩
  go_wp2_with fail
  go_ret2
  exact ⟨rfl, HR1.out⟩
set_option maxRecDepth 100000 in
set_option maxHeartbeats 1000000 in
theorem floAdd_new (w : World) (B : Nat) (F : Nat → Prop) (r d : Nat) (M : DM) (A : List Me) (key : ByteArray) (h : FloF w B F r d M A) (hB : B ≤ w.heap.size) (hf : key.size ≤ 1048576) (ha : fdG key A = none) (hl : A.length < 1048576) :
    Calls Try.prog 41 #[.pointer (some ⟨r, 0, none⟩), .string key] w fun e w' => e = .returned (.tuple #[.bool true, .int .i64 0]) ∧ ∃ t b, FloGot w B F r d (setM (stepM M) key (vl ()) t b) (setG A key ()) w' := by
  have hk : key.size ≤ maxLen := by unfold maxLen; omega
  have HG := Lib.hid (floHas_any w B F r d M A key h hB hk)
  rw [ha] at HG
  have g1 : decide (1048576 < (key.size : Int)) = false := by rw [decide_eq_false_iff_not]; omega
  have g2 : decide (1048576 ≤ (A.length : Int)) = false := by rw [decide_eq_false_iff_not]; omega
  have hcost2 : costM (setG A key ()) = costM A + prM (key, ()) := by rw [setG_none ha]; exact costM_snoc _ _
  have hlen : (setG A key ()).length ≤ 1048576 := by rw [setG_none ha, List.length_append]; simp; omega
  have hle : costM (setG A key ()) ≤ 4398046511104 := by
    have h1 := costM_le (fitM_set h.fit hf)
    omega
  have e0 : IntKind.i64.wrap (24 + (key.size : Int)) = ((prM (key, ()) : Nat) : Int) := by unfold prM; rw [IntWalk.i64_in _ (by omega)]; simp
  have e1 : IntKind.i64.wrap ((prM (key, ()) : Nat) : Int) = ((prM (key, ()) : Nat) : Int) := by unfold prM; rw [IntWalk.i64_in _ (by simp; omega)]
  obtain ⟨p2, hp2⟩ : ∃ p, prM (key, ()) = p := ⟨_, rfl⟩
  rw [hp2] at hcost2 e0 e1
  obtain ⟨cA, hcA⟩ : ∃ c, costM A = c := ⟨_, rfl⟩
  rw [hcA] at hcost2
  have e2 : IntKind.i64.wrap ((cA : Int) + (p2 : Int)) = ((cA + p2 : Nat) : Int) := by rw [IntWalk.i64_in _ (by omega)]; omega
  obtain ⟨cB, hcB⟩ : ∃ c, cA + p2 = c := ⟨_, rfl⟩
  rw [hcB] at e2 hcost2
  have HCB := Lib.hid hcost2
  have H := Lib.hid h
  have HF : Hid (FitM (key, ())) := hf
  have HA := Lib.hid ha
  have HK := Lib.hid hk
  have HCA := Lib.hid hcA
  have HLE := Lib.hid hlen
  clear h hf hcost2 hle hp2 hcA hcB hk ha hlen hl
  go_enter Try.func41, Try.ntmps41
  go_wp2_with fail
  refine HG.out.mono ?_
  rintro e w1 ⟨rfl, R1, F1⟩
  have HR1 := Lib.hid R1
  have HF1 := Lib.hid F1
  have HL := Lib.hid (floLen_any w1 B _ r d _ A R1)
  have c2 := R1.cost0
  rw [HCA.out] at c2
  have c3 := R1.dict0
  have z2 := R1.free 2
  clear R1 F1 HG
  go_wp2_with fail
  refine HL.out.mono ?_
  rintro e w' ⟨rfl, rfl⟩
  obtain ⟨w3, hw3⟩ : ∃ w3, w1.setCell ⟨r, 2, none⟩ (.int .i64 (cB : Int)) = w3 := ⟨_, rfl⟩
  have b3 : w3.heap[r]? = some (.cells #[.int .u64 (wd (stepM M).seed), .pointer (some ⟨d, 0, none⟩), .int .i64 (cB : Int)] 152 (0, 0)) := by
    rw [← hw3]
    exact flo_cost (w := w1) HR1.out.blk _
  have f3 : Fr (fun k => k = r) w1 w3 := by
    rw [← hw3]
    exact (Fr.refl (fun k => k = r) w1).thenSet _ _ (fun _ => rfl)
  have n3 : w3.cell? ⟨r, 1, none⟩ = some (.pointer (some ⟨d, 0, none⟩)) := cell_of_blk b3 1
  have B3 := Lib.hid b3
  have F3 := Lib.hid f3
  have HS := Lib.hid (set_G w3 d (stepM M) A key () HK.out (HR1.out.dat.fr F3.out (fun k hk e => HR1.out.rd (by rw [← show k = r from e]; exact hk))) HR1.out.like (by have := HR1.out.len; omega))
  clear b3 f3
  go_wp2_with fail
  refine HS.out.mono ?_
  rintro e w4 ⟨rfl, t, b, T4, L4⟩
  have HT4 := Lib.hid T4
  have HL4 := Lib.hid L4
  clear T4 L4
  go_wp2_with fail
  go_ret2
  refine ⟨by rw [HA.out]; rfl, t, b, FloGot.trans ⟨HR1.out, HF1.out⟩ (HR1.out.turnC (Nat.le_trans hB HF1.out.size) (by rw [HCB.out]; exact B3.out) F3.out HT4.out HL4.out ?_ HLE.out ?_) hB H.out.lt⟩
  · exact set_seed HR1.out.like.inv key _ t b
  · exact fitM_set H.out.fit HF.out
/-- what Add makes of a flock that has room -/
theorem floAdd_any (w : World) (B : Nat) (F : Nat → Prop) (r d : Nat) (M : DM) (A : List Me) (key : ByteArray) (h : FloF w B F r d M A) (hB : B ≤ w.heap.size) (hf : key.size ≤ 1048576) (hl : A.length < 1048576) :
    Calls Try.prog 41 #[.pointer (some ⟨r, 0, none⟩), .string key] w fun e w' => e = .returned (.tuple #[.bool (fdG key A).isNone, .int .i64 0]) ∧ ∃ M', FloGot w B F r d M' (setG A key ()) w' ∧ (((fdG key A).isSome = true ∧ M' = stepM M) ∨ (fdG key A = none ∧ ∃ t b, M' = setM (stepM M) key (vl ()) t b)) := by
  cases ha : fdG key A with
  | none => exact (floAdd_new w B F r d M A key h hB hf ha hl).mono fun e w' ⟨h1, t, b, h2⟩ => ⟨h1, _, h2, .inr ⟨rfl, t, b, rfl⟩⟩
  | some i =>
    obtain ⟨⟨⟩, hw⟩ := fdG_some ha
    refine (floAdd_there w B F r d M A key i h hB hf ha).mono fun e w' ⟨h1, h2⟩ => ⟨h1, _, ?_, .inl ⟨rfl, rfl⟩⟩
    have e : setG A key () = A := by
      rw [setG_some ha]
      refine List.ext_getElem? fun j => ?_
      rw [List.getElem?_set]
      split
      · next h => subst h; rw [if_pos (fdG_lt ha), hw]
      · rfl
    rw [e]
    exact h2
theorem floDel_none (w : World) (B : Nat) (F : Nat → Prop) (r d : Nat) (M : DM) (A : List Me) (key : ByteArray) (h : FloF w B F r d M A) (hB : B ≤ w.heap.size) (hk : key.size ≤ maxLen) (ha : fdG key A = none) :
    Calls Try.prog 64 #[.pointer (some ⟨r, 0, none⟩), .string key] w fun e w' => e = .returned (.bool false) ∧ FloGot w B F r d (stepM M) A w' := by
  have HG := Lib.hid (floHas_any w B F r d M A key h hB hk)
  rw [ha] at HG
  clear h ha
  go_enter Try.func64, Try.ntmps64
  go_wp2_with fail
  refine HG.out.mono ?_
  rintro e w1 ⟨rfl, R1⟩
  have HR1 := Lib.hid R1
  clear R1
  go_wp2_with fail
  go_ret
  exact ⟨rfl, HR1.out⟩
set_option maxRecDepth 100000 in
set_option maxHeartbeats 1000000 in
theorem floDel_there (w : World) (B : Nat) (F : Nat → Prop) (r d : Nat) (M : DM) (A : List Me) (key : ByteArray) (i : Nat) (h : FloF w B F r d M A) (hB : B ≤ w.heap.size) (hk : key.size ≤ maxLen) (ha : fdG key A = some i) (hw : A[i]? = some (key, ())) :
    Calls Try.prog 64 #[.pointer (some ⟨r, 0, none⟩), .string key] w fun e w' => e = .returned (.bool true) ∧ ∃ t, FloGot w B F r d (delM (stepM M) key t) (delG A key) w' := by
  have hfw : FitM (key, ()) := h.fit _ (List.mem_of_getElem? hw)
  have HG := Lib.hid (floHas_any w B F r d M A key h hB hk)
  rw [ha] at HG
  have hcost := costM_at hw
  have hcost2 : costM (delG A key) = costM (A.eraseIdx i) := by rw [delG_some ha]
  have hle0 : costM A ≤ 4398046511104 := by have h1 := costM_le h.fit; have h2 := h.len; omega
  have hks : key.size ≤ 1048576 := hfw
  have e0 : IntKind.i64.wrap (24 + (key.size : Int)) = ((prM (key, ()) : Nat) : Int) := by unfold prM; rw [IntWalk.i64_in _ (by omega)]; simp
  have e3 : IntKind.i64.wrap ((prM (key, ()) : Nat) : Int) = ((prM (key, ()) : Nat) : Int) := by unfold prM; rw [IntWalk.i64_in _ (by simp; omega)]
  obtain ⟨p1, hp1⟩ : ∃ p, prM (key, ()) = p := ⟨_, rfl⟩
  obtain ⟨q, hq⟩ : ∃ q, costM (A.eraseIdx i) = q := ⟨_, rfl⟩
  rw [hp1, hq] at hcost
  rw [hq] at hcost2
  rw [hp1] at e0 e3
  obtain ⟨cA, hcA⟩ : ∃ c, costM A = c := ⟨_, rfl⟩
  have e1 : IntKind.i64.wrap ((cA : Int) - (p1 : Int)) = (q : Int) := by rw [IntWalk.i64_in _ (by omega)]; omega
  have HCB := Lib.hid hcost2
  have H := Lib.hid h
  have HA := Lib.hid ha
  have HK := Lib.hid hk
  have HCA := Lib.hid hcA
  clear h hw hfw hcost hcost2 hle0 hp1 hq hcA hk ha
  go_enter Try.func64, Try.ntmps64
  go_wp2_with fail
  refine HG.out.mono ?_
  rintro e w1 ⟨rfl, R1, F1⟩
  have HR1 := Lib.hid R1
  have HF1 := Lib.hid F1
  have c2 := R1.cost0
  rw [HCA.out] at c2
  have c3 := R1.dict0
  have z2 := R1.free 2
  clear R1 F1 HG
  obtain ⟨w3, hw3⟩ : ∃ w3, w1.setCell ⟨r, 2, none⟩ (.int .i64 (q : Int)) = w3 := ⟨_, rfl⟩
  have b3 : w3.heap[r]? = some (.cells #[.int .u64 (wd (stepM M).seed), .pointer (some ⟨d, 0, none⟩), .int .i64 (q : Int)] 152 (0, 0)) := by
    rw [← hw3]
    exact flo_cost (w := w1) HR1.out.blk _
  have f3 : Fr (fun k => k = r) w1 w3 := by
    rw [← hw3]
    exact (Fr.refl (fun k => k = r) w1).thenSet _ _ (fun _ => rfl)
  have n3 : w3.cell? ⟨r, 1, none⟩ = some (.pointer (some ⟨d, 0, none⟩)) := cell_of_blk b3 1
  have B3 := Lib.hid b3
  have F3 := Lib.hid f3
  have HS := Lib.hid (del_G w3 d (stepM M) A key HK.out (HR1.out.dat.fr F3.out (fun k hk e => HR1.out.rd (by rw [← show k = r from e]; exact hk))) HR1.out.like (by have := HR1.out.len; omega))
  clear b3 f3
  go_wp2_with fail
  refine HS.out.mono ?_
  rintro e w4 ⟨rfl, t, T4, L4⟩
  have HT4 := Lib.hid T4
  have HL4 := Lib.hid L4
  clear T4 L4
  go_wp2_with fail
  go_ret
  refine ⟨by rw [HA.out]; rfl, t, FloGot.trans ⟨HR1.out, HF1.out⟩ (HR1.out.turnC (Nat.le_trans hB HF1.out.size) (by rw [HCB.out]; exact B3.out) F3.out HT4.out HL4.out ?_ ?_ ?_) hB H.out.lt⟩
  · exact del_seed HR1.out.like.inv key t
  · exact Nat.le_trans len_del H.out.len
  · exact fitM_del H.out.fit
theorem floDel_any (w : World) (B : Nat) (F : Nat → Prop) (r d : Nat) (M : DM) (A : List Me) (key : ByteArray) (h : FloF w B F r d M A) (hB : B ≤ w.heap.size) (hk : key.size ≤ maxLen) :
    Calls Try.prog 64 #[.pointer (some ⟨r, 0, none⟩), .string key] w fun e w' => e = .returned (.bool (fdG key A).isSome) ∧ ∃ M', FloGot w B F r d M' (delG A key) w' ∧ ((fdG key A = none ∧ M' = stepM M) ∨ ((fdG key A).isSome = true ∧ ∃ t, M' = delM (stepM M) key t)) := by
  cases ha : fdG key A with
  | none => exact (floDel_none w B F r d M A key h hB hk ha).mono fun e w' ⟨h1, h2⟩ => ⟨h1, _, by rw [delG_none ha]; exact h2, .inl ⟨rfl, rfl⟩⟩
  | some i =>
    obtain ⟨⟨⟩, hw⟩ := fdG_some ha
    exact (floDel_there w B F r d M A key i h hB hk ha hw).mono fun e w' ⟨h1, t, h2⟩ => ⟨h1, _, h2, .inr ⟨rfl, t, rfl⟩⟩
theorem floCost_any (w : World) (B : Nat) (F : Nat → Prop) (r d : Nat) (M : DM) (A : List Me) (h : FloF w B F r d M A) : Calls Try.prog 67 #[.pointer (some ⟨r, 0, none⟩)] w fun e w' => e = .returned (.int .i64 (costM A : Nat)) ∧ w = w' := by
  have c1 := h.cost0
  obtain ⟨c, hc⟩ : ∃ c, costM A = c := ⟨_, rfl⟩
  rw [hc] at c1 ⊢
  clear h hc
  go_enter Try.func67, Try.ntmps67
  go_wp2
  go_ret
  exact ⟨rfl, rfl⟩
end Go.Proofs.Ytgomilodeaafdaa
namespace Go.Proofs.Ytgomilodeaafdaa
open Go.RowKit Go.Sort
def bytesL (k : ByteArray) : List UInt8 := k.data.toList
def ofB (b : List UInt8) : ByteArray := ⟨b.toArray⟩
/-- a list of texts, rising -/
def sortS (l : List ByteArray) : List ByteArray := ((l.map bytesL).mergeSort leB).map ofB
theorem bytes_ofB (b : List UInt8) : bytesL (ofB b) = b := rfl
theorem ofB_bytes (k : ByteArray) : ofB (bytesL k) = k := by cases k; rfl
theorem sortS_len (l : List ByteArray) : (sortS l).length = l.length := by simp [sortS]
theorem sortS_vals (l : List ByteArray) : (sortS l).map Value.string = ((l.map bytesL).mergeSort leB).map encStr := by
  unfold sortS
  rw [List.map_map]
  rfl
theorem sortS_perm (l : List ByteArray) : (sortS l).Perm l := by
  unfold sortS
  have h := (List.mergeSort_perm (l.map bytesL) leB).map ofB
  rw [List.map_map] at h
  have e : (ofB ∘ bytesL) = id := funext ofB_bytes
  rw [e, List.map_id] at h
  exact h
def ltS (a b : ByteArray) : Prop := a.toList < b.toList
theorem sortS_rises {l : List ByteArray} (hd : l.Nodup) : (sortS l).Pairwise ltS := by
  have hp := sortS_perm l
  have hnd : (sortS l).Nodup := hp.nodup_iff.2 hd
  have hs : (sortS l).Pairwise fun a b => ¬ b.toList < a.toList := by
    unfold sortS
    rw [List.pairwise_map]
    refine (List.pairwise_mergeSort (le := leB) (fun a b c h1 h2 => ?_) (fun a b => ?_) _).imp fun {a b} h => ?_
    · simp only [leB, decide_eq_true_eq] at *
      exact List.le_trans h1 h2
    · simp only [leB, Bool.or_eq_true, decide_eq_true_eq]
      exact List.le_total a b
    · simp only [leB, decide_eq_true_eq] at h
      rw [Go.ByteArray.toList_eq, Go.ByteArray.toList_eq]
      exact List.not_lt.2 h
  refine (hs.and hnd).imp fun {a b} h => ?_
  by_cases h1 : a.toList < b.toList
  · exact h1
  · exact absurd (key_eq h1 h.1) h.2
theorem ltS_one {l l' : List ByteArray} (hp : l.Perm l') (h : l.Pairwise ltS) (h' : l'.Pairwise ltS) : l = l' :=
  hp.eq_of_pairwise (fun a b _ _ h1 h2 => absurd (List.lt_trans h1 h2) (List.lt_irrefl _)) h h'
theorem sortS_any (w : World) (B : Nat) (v : Value) (l : List ByteArray) (h : w.ownsRow B 9 1 v l.length (l.map .string)) (hn : l.length < 4611686018427387904) :
    Calls Try.prog 118 #[v] w fun e w' => e = .returned (.tuple #[]) ∧ w'.ownsRow B 9 1 v l.length ((sortS l).map .string) ∧ Fr (fun i => v.ownBlock = some i) w w' := by
  obtain ⟨hl, ⟨rfl, h0⟩ | ⟨g, cap, cur, rfl, hbase, hb, h1, h2, h3, h4⟩⟩ := h
  · have hl0 : l = [] := List.length_eq_zero_iff.1 h0
    subst hl0
    refine (Try.slices_Sort_string_none none 0 w).mono fun e w' ⟨he, hw⟩ => ⟨he, ?_, by rw [hw]; exact Fr.refl _ _⟩
    have e0 : (sortS []).map Value.string = [] := by simp [sortS]
    rw [e0]
    exact World.ownsRow_nil _ _ _ _
  · have hss : (l.map bytesL).length = l.length := by simp
    have hH : Holds encStr w g 0 (l.map bytesL).toArray := by
      refine holds_of_block hb ?_
      rw [List.length_map, List.map_map]
      have e : (encStr ∘ bytesL) = Value.string := funext fun k => by show Value.string (ofB (bytesL k)) = _; rw [ofB_bytes]
      rw [e]
      simpa using h4
    have hgl : g < w.heap.size := (Array.getElem?_eq_some_iff.1 hb).1
    have hC := Try.slices_Sort_string g 0 cap (l.map bytesL) w hH hgl (by rw [hss]; exact hn)
    rw [hss] at hC
    refine hC.mono ?_
    rintro e w' ⟨he, n, os, hw⟩
    refine ⟨he, ?_, ?_⟩
    · have ho := ownsRow_sorted (w := w) (n := n) (os := os) (ss := l.map bytesL) (ts := (l.map bytesL).mergeSort fun x y => decide (x ≤ y)) (by simp) hbase hb (by rw [hss]; exact h1) h2 h3
      rw [hw, sortS_vals]
      have hlen : ((l.map bytesL).mergeSort fun x y => decide (x ≤ y)).length = l.length := by simp
      simpa using ho
    · rw [hw]
      exact Fr.of_grownBy (grownBy_sorted _)
end Go.Proofs.Ytgomilodeaafdaa
namespace Go.Proofs.Ytgomilodeaafdaa
open Go.RowKit Go.Shelf Du
attribute [local go_sem] Oper.semAt_some
/-- append where there is room, inside a fence -/
theorem wpListIn_room {F : Fence} {n : Nat} {P : Program} (w : World) {ops : Array Oper} {rest : List Oper} {o : Oper} {a : Act} {Q : Exit → Act → World → Prop}
    (hg : o.guard = none) (s x : Operand) (t : TypeId) (hop : o.op = Op.call { callee := Callee.builtin Builtin.append, args := #[s, x], argTypes := #[t, t] })
    (e : TypeId) (i : TypeInfo) (h1 : P.underlying t = some (.slice e)) (h2 : P.info? e = some i) (h4 : i.size = 1)
    (g k cap : Nat) (cur : Array Value) (hs : a.eval s = .slice (some ⟨g, 0, none⟩) k cap) (hb : w.heap[g]? = some (.cells cur e (0, 0)))
    (ad : Addr) (u : Value) (hx : a.eval x = .slice (some ad) 1 1) (hc : w.cell? (ad.add 0) = some u) (hu : u.oneCell' = true) (hr : k + 1 ≤ cap) (hf : k + 1 ≤ cur.size)
    (hK : wpListIn F n P ops Q rest (a.put o.dst (.slice (some ⟨g, 0, none⟩) (k + 1) cap)) (w.setRow g (cur.toList.take k ++ [u] ++ cur.toList.drop (k + 1)).toArray)) :
    wpListIn F n P ops Q (o :: rest) a w := by
  refine wpListIn_plain hg fun K hK' => ?_
  have hrun := run_append_room (P := P) w t o.type e i h1 h2 g k cap cur hb ad 1 1 [u] (by rw [h4]; rfl) (fun j v hv => by
    cases j with
    | zero => simp only [List.getElem?_cons_zero, Option.some.injEq] at hv; rw [← hv]; exact hc
    | succ j => simp at hv) (fun v hv => by rw [List.mem_singleton.1 hv]; exact hu) hr (by rw [h4, Nat.mul_one]; exact hf)
  rw [h4] at hrun
  simp only [Nat.mul_one, List.length_cons, List.length_nil, Nat.zero_add] at hrun
  unfold Oper.wpIn
  refine ⟨?_, ?_⟩
  · simp [Oper.about, hop, resolve, Target.leads, Sem.run_pure]
  · rw [Oper.semAt_plain F _ _ (by rw [hop]; intro c hc'; cases hc')]
    simp [execOp, hop, resolve, invoke, builtin, hs, hx, hrun, Result.andThen]
    exact hK' _ _ (by simpa using hK)
def eachM (M : DM) : List ByteArray := (opn M).flatten.map E.key
theorem eachM_val {M : DM} {A : List Me} (h : LikeG vl M A) : ∀ e ∈ (opn M).flatten, ∃ _xx : Unit, e.val = [] := by
  intro e he
  rw [opn_flatten h.inv] at he
  have h1 : pairOf e ∈ tb M := List.mem_map.2 ⟨e, he, rfl⟩
  obtain ⟨x, _, hx⟩ := List.mem_map.1 (h.perm.mem_iff.1 h1)
  exact ⟨(), (congrArg Prod.snd hx).symm⟩
theorem eachM_perm {M : DM} {A : List Me} (h : LikeG vl M A) : (eachM M).Perm (A.map (·.1)) := by
  unfold eachM
  rw [opn_flatten h.inv]
  exact h.keys
theorem eachM_len {M : DM} {A : List Me} (h : LikeG vl M A) : (opn M).flatten.length = A.length := by
  have := (eachM_perm h).length_eq
  unfold eachM at this
  rw [List.length_map, List.length_map] at this
  exact this
/-- what stands while the members come -/
structure Sq (w : World) (N : Nat) (S : List ByteArray) (V : World) : Prop where
  b3 : Boxed V (w.heap.size + 1) 39 (.slice (some ⟨w.heap.size, 0, none⟩) S.length N)
  blk : ∃ cur, V.heap[w.heap.size]? = some (.cells cur 9 (0, 0)) ∧ cur.size = N ∧ cur.toList.take S.length = S.map .string
  le : S.length ≤ N
  fr : Fr (fun _ => False) w V
section
variable {w A B : World} {N : Nat} {S : List ByteArray}
theorem Sq.turn (h : Sq w N S A) {row : Option Nat} (hg : A.grownBy B row) (hr : ∀ r, row = some r → w.heap.size ≤ r ∧ ∃ o : Obj, A.heap[r]? = some o ∧ o.isCells = false) : Sq w N S B := by
  have hne : ∀ k cs t m, A.heap[k]? = some (.cells cs t m) → some k ≠ row := by
    intro k cs t m hk e
    obtain ⟨_, o, ho, hc⟩ := hr k e.symm
    rw [hk] at ho
    cases ho
    cases hc
  obtain ⟨cur, hb, h2, h3⟩ := h.blk
  exact ⟨h.b3.kept hg (hne _ _ _ _ h.b3), ⟨cur, (hg.block _ (Array.getElem?_eq_some_iff.1 hb).1 (hne _ _ _ _ hb)).trans hb, h2, h3⟩, h.le, h.fr.wide (Fr.of_grownBy hg) (fun i hi => .inr (hr i hi).1)⟩
theorem Sq.quiet (h : Sq w N S A) (hf : Fr (fun _ => False) A B) : Sq w N S B :=
  h.turn (row := none) ⟨hf.os, hf.tape, hf.output, hf.size, fun k hk _ => hf.block k hk (fun h => h)⟩ (fun r e => by cases e)
/-- the blocks that a member's coming writes -/
def SqW (w : World) (k : Nat) : Prop := k = w.heap.size ∨ k = w.heap.size + 1
theorem Sq.app {cur : Array Value} {x : ByteArray} (h : Sq w N S A) (hb : A.heap[w.heap.size]? = some (.cells cur 9 (0, 0))) (hcs : cur.size = N) (htk : cur.toList.take S.length = S.map .string) (hlt : S.length < N) (W : World)
    (hW : W = (A.setRow w.heap.size (cur.toList.take S.length ++ [Value.string x] ++ cur.toList.drop (S.length + 1)).toArray).setCell ⟨w.heap.size + 1, 0, none⟩ (.slice (some ⟨w.heap.size, 0, none⟩) (S.length + 1) N)) :
    Sq w N (S ++ [x]) W ∧ Fr (SqW w) A W := by
  have e1 := setRow_heap A w.heap.size cur (cur.toList.take S.length ++ [Value.string x] ++ cur.toList.drop (S.length + 1)).toArray 9 _ hb
  have o1 : ∀ k, k ≠ w.heap.size → (A.setRow w.heap.size (cur.toList.take S.length ++ [Value.string x] ++ cur.toList.drop (S.length + 1)).toArray).heap[k]? = A.heap[k]? := fun k hk => setRow_other A w.heap.size k _ hk
  have hfr : Fr (SqW w) A W := by
    rw [hW]
    refine Fr.thenSet (S := SqW w) (w := A) (w' := A.setRow w.heap.size (cur.toList.take S.length ++ [Value.string x] ++ cur.toList.drop (S.length + 1)).toArray) ⟨rfl, rfl, rfl, by simp, fun k hk hn => o1 k (fun e => hn (.inl e))⟩ ⟨w.heap.size + 1, 0, none⟩ _ (fun _ => .inr rfl)
  have hb3 : Boxed (A.setRow w.heap.size (cur.toList.take S.length ++ [Value.string x] ++ cur.toList.drop (S.length + 1)).toArray) (w.heap.size + 1) 39 (.slice (some ⟨w.heap.size, 0, none⟩) S.length N) := (o1 _ (by omega)).trans h.b3
  refine ⟨⟨?_, ?_, by rw [List.length_append]; simp; omega, ?_⟩, hfr⟩
  · rw [hW, List.length_append]
    exact hb3.set _
  · refine ⟨(cur.toList.take S.length ++ [Value.string x] ++ cur.toList.drop (S.length + 1)).toArray, ?_, ?_, ?_⟩
    · rw [hW]
      refine Eq.trans ((Fr.setCell _ ⟨w.heap.size + 1, 0, none⟩ _).block w.heap.size (Array.getElem?_eq_some_iff.1 e1).1 (fun e => ?_)) e1
      have e : w.heap.size = w.heap.size + 1 := e
      omega
    · simp; omega
    · rw [List.length_append, List.map_append, ← htk]
      simp only [List.length_cons, List.length_nil, List.map_cons, List.map_nil]
      have hl : (cur.toList.take S.length).length = S.length := by rw [List.length_take]; simp; omega
      rw [List.take_append_of_le_length (by rw [List.length_append, hl]; simp)]
      rw [List.take_of_length_le (by rw [List.length_append, hl]; simp)]
  · exact h.fr.wide hfr (fun i hi => .inr (by rcases hi with rfl | rfl <;> omega))
theorem Sq.others (h : Sq w N S A) (hf : Fr (SqW w) A B) : KeepsOthers A B := by
  refine ⟨hf.size, fun k o hk hc => (hf.block k (Array.getElem?_eq_some_iff.1 hk).1 (fun hw => ?_)).trans hk⟩
  have hcell : ∃ cs t m, A.heap[k]? = some (.cells cs t m) := by
    rcases hw with rfl | rfl
    · obtain ⟨cur, hb, _⟩ := h.blk; exact ⟨_, _, _, hb⟩
    · exact ⟨_, _, _, h.b3⟩
  obtain ⟨cs, t, m, hb⟩ := hcell
  rw [hk] at hb
  cases hb
  cases hc
theorem Sq.keep (h : Sq w N S A) (hf : Fr (SqW w) A B) {n0 : Nat} (hn : w.heap.size + 1 < n0) : EachK n0 A B := by
  refine ⟨Keep.of_fr hf fun k cs t m hs hk hw => ?_, Late.of_others _ (h.others hf)⟩
  have := hs.1
  rcases hw with rfl | rfl <;> omega
end
end Go.Proofs.Ytgomilodeaafdaa
namespace Go.Proofs.Ytgomilodeaafdaa
open Go.RowKit Go.Shelf Du
attribute [local go_sem] Oper.semAt_some
/-- what Members hands back -/
def MembersPost (w : World) (A : List Me) (e : Ending) (w' : World) : Prop :=
  ∃ (v : Value) (l : List ByteArray), e = .returned v ∧ l.Perm (A.map (·.1)) ∧ l.Pairwise ltS ∧ w'.ownsRow w.heap.size 9 1 v A.length (l.map .string) ∧ Fr (fun _ => False) w w'
set_option maxRecDepth 100000 in
set_option maxHeartbeats 4000000 in
theorem members_any (w : World) (B : Nat) (F : Nat → Prop) (r d : Nat) (M : DM) (A : List Me) (h : FloF w B F r d M A) :
    Calls Try.prog 54 #[.pointer (some ⟨r, 0, none⟩)] w (MembersPost w A) := by
  refine (callsIn_wide (n := 8)).1 ?_
  have H := Lib.hid h
  have hn := h.len
  have c1 := h.dict0
  have hrl := (h.lt r h.fr).2
  have HLN := Lib.hid (floLen_any w B F r d M A h)
  obtain ⟨i0, hi, hz0, hz1, hz2⟩ := info_parts info_str
  have HI := Lib.hid hi
  have HZ1 := Lib.hid hz1
  obtain ⟨cs, hcs, hmk⟩ : ∃ cs : Array Value, cs.size = A.length ∧ ∀ w : World, (Instr.makeSlice 39 (.int .i64 0) (.int .i64 A.length)).run Try.prog w = .ok (.slice (some ⟨w.heap.size, 0, none⟩) 0 A.length) (w.alloc (.cells cs 9)) := by
    refine ⟨madeCells (Value.string ⟨#[]⟩).cells (A.length * i0.size), by rw [size_madeCells, hz1, Nat.mul_one], fun w => ?_⟩
    exact run_make (P := Try.prog) (w := w) 39 9 i0 (.string ⟨#[]⟩) Try.underlying39 hi hz0 .i64 .i64 0 A.length (by omega) (by omega) (by rw [hz2]; omega) (by omega)
  have HCS := Lib.hid hcs
  clear h hi hz0 hz1 hz2 hcs
  refine callsIn_of_wp_marks Try.func54 rfl trivial ?_ rfl
  simp only [Try.ntmps54, List.size_toArray, List.length_cons, List.length_nil, Nat.reduceAdd, Nat.reduceSub, Array.replicate_succ, Array.replicate_zero, List.push_toArray, List.append_toArray, List.nil_append, List.cons_append]
  gi_wp2_with fail
  refine ⟨trivial, (callsIn_wide.2 HLN.out).mono ?_⟩
  rintro e w' ⟨rfl, rfl⟩
  gi_wp2_with fail
  refine ⟨trivial, (each_in _ 7 trivial rfl _ _).mono ?_⟩
  rintro e w' ⟨rfl, rfl⟩
  gi_wp2_with fail
  obtain ⟨Wl, hWl⟩ : ∃ Wl, ((w.alloc (.cells cs 9)).alloc (.cells #[.slice (some ⟨w.heap.size, 0, none⟩) 0 A.length] 39)).alloc (.cells #[.pointer (some ⟨d, 0, none⟩)] 148) = Wl := ⟨_, rfl⟩
  have bN := Boxed.new ((w.alloc (.cells cs 9)).alloc (.cells #[.slice (some ⟨w.heap.size, 0, none⟩) 0 A.length] 39)) 148 (.pointer (some ⟨d, 0, none⟩))
  have hS0 : Sq w A.length [] Wl := by
    have b3 := Boxed.new (w.alloc (.cells cs 9)) 39 (.slice (some ⟨w.heap.size, 0, none⟩) 0 A.length)
    simp only [World.size_alloc] at b3
    rw [← hWl]
    exact ⟨b3.alloc _, ⟨cs, alloc_old (alloc_old (alloc_new w _)), HCS.out, by simp⟩, Nat.zero_le _, ((Fr.alloc (fun _ => False) w _).thenAlloc _).thenAlloc _⟩
  simp only [World.size_alloc] at bN
  rw [hWl] at bN
  rw [hWl]
  have hsz : w.heap.size + 3 = Wl.heap.size := by rw [← hWl]; simp
  have HSZ := Lib.hid hsz
  have HS0 := Lib.hid hS0
  have HAl : Hid (Al d (w.heap.size + 1 + 1) M Wl) := ⟨H.out.dat.fr hS0.fr (fun _ _ h => h), bN⟩
  have hN : (opn M).flatten.length = A.length := eachM_len H.out.like
  have HN := Lib.hid hN
  clear hWl bN hS0 hmk hsz hN HCS
  refine wpIn_rangeV rfl (by decide) (gf := 176) (lb := #[.pointer (some ⟨w.heap.size + 1 + 1, 0, none⟩)]) rfl trivial (enters_of Try.func176 (by kernel_rfl) rfl)
    (each_stops _ (8 - 1) trivial trivial trivial rfl (by decide) (w.heap.size + 1 + 1) d M Wl.heap.size Wl (Nat.le_refl _) HAl.out (eachM_val H.out.like) (by rw [H.out.like.count]; omega))
    (fun _ _ _ h k => h.trans k) (fun V l r r' _ h => EachK.loop _ V l r r' h) (Below.refl _ _) (fun _ => rfl)
    (fun pre V => Sq w A.length (pre.map E.key) V)
    (fun _ _ _ => False)
    ?own (fun _ _ _ _ _ hs _ _ => hs) HS0.out
    (fun x => { tmps := #[.pointer (some ⟨r, 0, none⟩), undef, .slice none 0 0, .pointer (some ⟨w.heap.size + 1, 0, none⟩), .string x.key, .pointer (some ⟨r, 0, none⟩), .bool false, .pointer (some ⟨r, 0, none⟩), .int .i64 A.length, .slice (some ⟨w.heap.size, 0, none⟩) 0 A.length, .pointer (some ⟨r, 0, none⟩), .pointer (some ⟨r, 0, none⟩), .pointer (some ⟨r, 1, none⟩), .pointer (some ⟨d, 0, none⟩), .func (.func 176) #[] #[.pointer (some ⟨w.heap.size + 1 + 1, 0, none⟩)], .string x.key, .agg #[], undef, undef, undef, undef, undef, undef, undef], defers := [] }) ?assign ?body ?done ?stop
  case own =>
    rintro pre A' B' row hS hg hr
    exact hS.turn hg fun r e => ⟨by have := (hr r e).1; have := HSZ.out; omega, (hr r e).2⟩
  case assign =>
    intro lr x V K hK
    unfold etE
    gi_wp2
    exact hK
  case body =>
    rintro lr pre x V hS hv
    have hlen : (pre ++ [x]).length ≤ A.length := by rw [← HN.out]; exact hv.length_le
    rw [List.length_append] at hlen
    have hpl : pre.length + 1 ≤ A.length := hlen
    have hml : (pre.map E.key).length = pre.length := List.length_map ..
    obtain ⟨cur, hb, hcs, htk⟩ := hS.blk
    have HS := Lib.hid hS
    have HB := Lib.hid hb
    have HCS := Lib.hid hcs
    have HTK := Lib.hid htk
    have hcb := hS.b3.cell
    have hfz := hS.b3.frozen
    have hb3 := hS.b3.lt
    try dsimp only
    obtain ⟨key, hkey⟩ : ∃ key, x.key = key := ⟨_, rfl⟩
    rw [hkey]
    obtain ⟨K0, hK0⟩ : ∃ k, (pre.map E.key).length = k := ⟨_, rfl⟩
    rw [hK0] at hcb HTK
    have HK0 := Lib.hid hK0
    have HKP : Hid (K0 < A.length) := by show _ < _; omega
    have HKEY := Lib.hid hkey
    obtain ⟨V1, hV1⟩ : ∃ V1, V.alloc (.cells #[.string key] 9) = V1 := ⟨_, rfl⟩
    have hf1 : Fr (fun _ => False) V V1 := by rw [← hV1]; exact Fr.alloc _ _ _
    have hb1 : V1.heap[w.heap.size]? = some (.cells cur 9 (0, 0)) := by rw [← hV1]; exact alloc_old hb
    have hs1 : Sq w A.length (pre.map E.key) V1 := hS.quiet hf1
    have hu1 : V1.cell? ((⟨V.heap.size, 0, none⟩ : Addr).add 0) = some (.string key) := by
      show V1.cell? ⟨V.heap.size, 0, none⟩ = _
      rw [← hV1, cell_of_blk (alloc_new V _)]; rfl
    have HF1 := Lib.hid hf1
    have HB1 := Lib.hid hb1
    have HS1 := Lib.hid hs1
    have HU1 := Lib.hid hu1
    have g3 : K0 + 1 ≤ cur.size := by rw [hcs]; omega
    obtain ⟨W2, hW2⟩ : ∃ W2, V1.setRow w.heap.size (cur.toList.take K0 ++ [Value.string key] ++ cur.toList.drop (K0 + 1)).toArray = W2 := ⟨_, rfl⟩
    have HW2 := Lib.hid hW2
    have hcb2 : W2.cell? ⟨w.heap.size + 1, 0, none⟩ = some (.slice (some ⟨w.heap.size, 0, none⟩) K0 A.length) := by
      have hb9 : Boxed W2 (w.heap.size + 1) 39 (.slice (some ⟨w.heap.size, 0, none⟩) K0 A.length) := by
        rw [← hW2, ← hK0]; exact (setRow_other V1 w.heap.size _ _ (by omega)).trans hs1.b3
      exact hb9.cell
    have hfz2 : W2.frozen? ⟨w.heap.size + 1, 0, none⟩ = false := by
      have hb9 : Boxed W2 (w.heap.size + 1) 39 (.slice (some ⟨w.heap.size, 0, none⟩) K0 A.length) := by
        rw [← hW2, ← hK0]; exact (setRow_other V1 w.heap.size _ _ (by omega)).trans hs1.b3
      exact hb9.frozen
    clear hS hv hlen hb hcs htk hK0 hkey hf1 hb1 hs1 hu1 hml hW2 hpl
    gi_wp2_with (gi_at_builtin; refine wpListIn_room _ rfl (.tmp 17) (.tmp 19) 39 rfl 9 i0 Try.underlying39 HI.out HZ1.out w.heap.size K0 A.length cur rfl (by first | exact HB1.out | (rw [← hV1] at *; exact HB1.out)) ⟨V.heap.size, 0, none⟩ (.string key) rfl (by first | exact HU1.out | (rw [← hV1] at *; exact HU1.out)) rfl HKP.out g3 ?_; rw [HW2.out])
    have hres := HS1.out.app (x := key) HB1.out HCS.out (by rw [HK0.out]; exact HTK.out) (by rw [HK0.out]; exact HKP.out) (W2.setCell ⟨w.heap.size + 1, 0, none⟩ (.slice (some ⟨w.heap.size, 0, none⟩) (K0 + 1) A.length)) (by rw [HK0.out, ← HW2.out])
    have hfr : Fr (SqW w) V (W2.setCell ⟨w.heap.size + 1, 0, none⟩ (.slice (some ⟨w.heap.size, 0, none⟩) (K0 + 1) A.length)) := (HF1.out.mono (fun _ h _ => h.elim)).wide hres.2 (fun i hi => .inl hi)
    refine ⟨HS.out.others hfr, HS.out.keep hfr (by have := HSZ.out; omega), ?_⟩
    show Sq w A.length ((pre ++ [x]).map E.key) _
    rw [List.map_append, List.map_singleton, HKEY.out]
    have h1 := hres.1
    exact h1
  case done =>
    rintro D ys V hD rfl hS hK
    have hperm := eachM_perm H.out.like
    have hSl : (eachM M).length = A.length := by rw [hperm.length_eq, List.length_map]
    have hnd : (eachM M).Nodup := hperm.nodup_iff.2 H.out.like.nodup
    obtain ⟨cur, hb, hcs, htk⟩ := hS.blk
    have hlm : ((opn M).flatten.map E.key).length = A.length := hSl
    have hb3 := hS.b3
    rw [hlm] at hb3 htk
    have hrow : V.ownsRow w.heap.size 9 1 (.slice (some ⟨w.heap.size, 0, none⟩) A.length A.length) A.length ((eachM M).map .string) :=
      ⟨by rw [List.length_map, hSl, Nat.mul_one], .inr ⟨w.heap.size, A.length, cur, rfl, Nat.le_refl _, hb, Nat.le_refl _, by unfold maxLen; omega, by rw [hcs, Nat.mul_one], by rw [Nat.mul_one]; exact htk⟩⟩
    have HSORT := Lib.hid (sortS_any V w.heap.size (.slice (some ⟨w.heap.size, 0, none⟩) A.length A.length) (eachM M) (by rw [hSl]; exact hrow) (by rw [hSl]; omega))
    rw [hSl] at HSORT
    have HROW := Lib.hid hrow
    have HS := Lib.hid hS.fr
    have HK := Lib.hid hK
    have HPM := Lib.hid hperm
    have HND := Lib.hid hnd
    have hcb := hb3.cell
    have hbl := hb3.lt
    have HBB : Hid (Boxed V (w.heap.size + 1) 39 (.slice (some ⟨w.heap.size, 0, none⟩) A.length A.length)) := hb3
    clear hS hK hrow hSl HS0 HAl hperm hnd hb hcs htk hlm hb3
    gi_wp2_with fail
    refine ⟨trivial, (callsIn_wide.2 HSORT.out).mono ?_⟩
    rintro e V2 ⟨rfl, hl3, hl4⟩
    have hnr : ¬ (Value.slice (some ⟨w.heap.size, 0, none⟩) A.length A.length).ownBlock = some (w.heap.size + 1) := fun e => by
      have h1 : w.heap.size = w.heap.size + 1 := Option.some.inj e
      omega
    have hcb2 : V2.cell? ⟨w.heap.size + 1, 0, none⟩ = some (.slice (some ⟨w.heap.size, 0, none⟩) A.length A.length) := hl4.cell hcb hnr
    have hDr : ¬ (Value.slice (some ⟨w.heap.size, 0, none⟩) A.length A.length).ownBlock = some D := fun e => by
      obtain ⟨_, _, cs', hb⟩ := Du.own_blk HROW.out e
      rw [HK.out] at hb
      cases hb
    have HD2 : Hid (V2.heap[D]? = some (.deferred (some []))) := (hl4.block D (Array.getElem?_eq_some_iff.1 HK.out).1 hDr).trans HK.out
    have HFF : Hid (Fr (fun _ => False) w V2) := HS.out.wide hl4 (fun i hi => .inr (Du.own_blk HROW.out hi).1)
    have HL3 := Lib.hid hl3
    have hwD : w.heap.size ≤ D := by have := HSZ.out; omega
    clear hl3 hl4 hnr hDr hcb
    gi_wp2
    refine ⟨by simp, .inl ⟨_, _, rfl, run_takeDeferred HD2.out, ?_⟩⟩
    refine ⟨.slice (some ⟨w.heap.size, 0, none⟩) A.length A.length, ?_, ?_⟩
    · simp [results, Try.f54, go_sem]
    · exact ⟨_, sortS (eachM M), rfl, (sortS_perm _).trans HPM.out, sortS_rises HND.out, ow_fr HL3.out (Fr.of_grownBy (grownBy_putObj' _ D (.deferred none))) (fun g hg e => by cases e; exact absurd (Du.own_blk HL3.out hg).2.2 (by rintro ⟨cs', hc⟩; rw [HD2.out] at hc; cases hc)), HFF.out.wide (Fr.of_grownBy (grownBy_putObj' _ D (.deferred none))) (fun i hi => .inr (by cases hi; exact hwD))⟩
  case stop =>
    rintro D c pre V _ _ h _
    exact h.elim
end Go.Proofs.Ytgomilodeaafdaa
namespace Go.Proofs.Ytgomilodeaafdaa
open Go.RowKit Go.Shelf Du
attribute [local go_sem] Oper.semAt_some
/-- who is sampled -/
def sampM (l : List ByteArray) (n : UInt64) : Value := if l = [] then .tuple #[.string ⟨#[]⟩, .bool false] else .tuple #[.string ((l[n.toNat % l.length]?).getD ⟨#[]⟩), .bool true]
theorem sampM_at {l : List ByteArray} {n : UInt64} {k : Nat} {x : ByteArray} (h : n.toNat % l.length = k) (hx : l[k]? = some x) : sampM l n = .tuple #[.string x, .bool true] := by
  unfold sampM
  rw [if_neg (fun e => by rw [e] at hx; simp at hx), h, hx]
  rfl
set_option maxRecDepth 100000 in
set_option maxHeartbeats 1000000 in
theorem floSample_any (w : World) (B : Nat) (F : Nat → Prop) (r d : Nat) (M : DM) (A : List Me) (n : UInt64) (h : FloF w B F r d M A) (l : List ByteArray) (hp : l.Perm (A.map (·.1))) (hs : l.Pairwise ltS) :
    Calls Try.prog 65 #[.pointer (some ⟨r, 0, none⟩), .int .u64 (wd n)] w fun e w' => e = .returned (sampM l n) ∧ Fr (fun _ => False) w w' := by
  have HP := Lib.hid (members_any w B F r d M A h)
  have HPM := Lib.hid hp
  have HSO := Lib.hid hs
  have hll : l.length = A.length := by rw [hp.length_eq, List.length_map]
  have hal := h.len
  obtain ⟨nn, hnn⟩ : ∃ x, n.toNat = x := ⟨_, rfl⟩
  have hw : wd n = (nn : Int) := congrArg Nat.cast hnn
  have hnl : nn < 18446744073709551616 := by rw [← hnn]; exact n.toNat_lt
  have hsv : sampM l n = if l = [] then .tuple #[.string ⟨#[]⟩, .bool false] else .tuple #[.string ((l[nn % l.length]?).getD ⟨#[]⟩), .bool true] := by unfold sampM; rw [hnn]
  have HSV := Lib.hid hsv
  rw [hw]
  clear h hp hs hw hsv hnn
  go_enter Try.func65, Try.ntmps65
  go_wp2_with fail
  refine HP.out.mono ?_
  rintro e w1 ⟨v, l', rfl, q1, q2, q3, q4⟩
  obtain rfl : l' = l := ltS_one (q1.trans HPM.out.symm) q2 HSO.out
  obtain ⟨va, vc, rfl⟩ := ow_sliceN q3
  rw [← hll] at q3 ⊢
  have Q3 := Lib.hid q3
  have Q4 := Lib.hid q4
  have hl6 : l'.length ≤ 1048576 := by omega
  clear q1 q2 q3 q4 HP hll
  by_cases h0 : l'.length = 0
  · rw [if_pos (List.length_eq_zero_iff.1 h0)] at HSV
    rw [h0]
    clear h0
    go_wp2
    go_ret2
    exact ⟨by rw [HSV.out]; rfl, Q4.out⟩
  · rw [if_neg (fun e => h0 (by rw [e]; rfl))] at HSV
    have hpos : 0 < l'.length := Nat.pos_of_ne_zero h0
    obtain ⟨k, hk⟩ : ∃ k, nn % l'.length = k := ⟨_, rfl⟩
    have hkl : k < l'.length := by rw [← hk]; exact Nat.mod_lt _ hpos
    rw [hk, List.getElem?_eq_getElem hkl] at HSV
    have hc := (RdC.of_owns Q3.out).at (by rw [List.length_map]; omega)
    obtain ⟨g, off, rfl, hcell⟩ := hc
    have hc1 := hcell k (.string (l'[k])) (by rw [List.getElem?_map, List.getElem?_eq_getElem hkl]; rfl)
    obtain ⟨x, hx⟩ : ∃ x, l'[k] = x := ⟨_, rfl⟩
    rw [hx] at hc1
    have hsv2 : sampM l' n = .tuple #[.string x, .bool true] := by rw [HSV.out]; show _ = _; rw [← hx]; rfl
    have HS2 := Lib.hid hsv2
    have e1 : IntKind.u64.wrap (l'.length : Int) = (l'.length : Int) := IntWalk.u64_in _ (by omega)
    rw [← hk] at hc1
    have b0 : (0 : Int) ≤ (nn : Int) % (l'.length : Int) := by omega
    have b1 : (nn : Int) % (l'.length : Int) < (l'.length : Int) := by omega
    clear hsv2 HSV hcell hx hk
    go_wp2
    go_ret2
    exact ⟨by rw [HS2.out]; rfl, Q4.out⟩
theorem floScan_any (w : World) (B : Nat) (F : Nat → Prop) (r d : Nat) (M : DM) (A : List Me) (c : UInt64) (count : Int) (h : FloF w B F r d M A) (hc : InI count) :
    Calls Try.prog 68 #[.pointer (some ⟨r, 0, none⟩), .int .u64 (wd c), .int .i64 count] w (ScanPost w (scanK M c.toNat count)) := by
  have c1 := h.dict0
  have HN := Lib.hid (next_any w d M c count h.dat (by rw [h.like.count]; have := h.len; omega) hc.1 hc.2)
  obtain ⟨c0, hc0⟩ : ∃ c0, wd c = c0 := ⟨_, rfl⟩
  rw [hc0] at HN ⊢
  clear h hc0
  go_enter Try.func68, Try.ntmps68
  go_wp2_with fail
  refine HN.out.mono ?_
  rintro e w1 ⟨v, rfl, hq⟩
  go_wp2_with fail
  go_ret2
  exact ⟨v, rfl, hq⟩
theorem floLen_nil (w : World) : Calls Try.prog 66 #[.pointer none] w fun e w' => e = .returned (.int .i64 0) ∧ w = w' := by
  go_enter Try.func66, Try.ntmps66
  go_wp2
  go_ret
  exact ⟨rfl, rfl⟩
theorem floHas_nil (k : ByteArray) (w : World) : Calls Try.prog 52 #[.pointer none, .string k] w fun e w' => e = .returned (.bool false) ∧ w = w' := by
  go_enter Try.func52, Try.ntmps52
  go_wp2
  go_ret
  exact ⟨rfl, rfl⟩
theorem floDel_nil (k : ByteArray) (w : World) : Calls Try.prog 64 #[.pointer none, .string k] w fun e w' => e = .returned (.bool false) ∧ w = w' := by
  go_enter Try.func64, Try.ntmps64
  go_wp2_with fail
  refine (floHas_nil k w).mono ?_
  rintro e w' ⟨rfl, rfl⟩
  go_wp2_with fail
  go_ret
  exact ⟨rfl, rfl⟩
theorem floCost_nil (w : World) : Calls Try.prog 67 #[.pointer none] w fun e w' => e = .returned (.int .i64 0) ∧ w = w' := by
  go_enter Try.func67, Try.ntmps67
  go_wp2
  go_ret
  exact ⟨rfl, rfl⟩
theorem floScan_nil (c count : Int) (w : World) : Calls Try.prog 68 #[.pointer none, .int .u64 c, .int .i64 count] w fun e w' => e = .returned (.tuple #[.int .u64 0, .slice none 0 0]) ∧ w = w' := by
  go_enter Try.func68, Try.ntmps68
  go_wp2
  go_ret2
  exact ⟨rfl, rfl⟩
set_option maxRecDepth 100000 in
theorem members_nil (w : World) : Calls Try.prog 54 #[.pointer none] w fun e w' => e = .returned (.slice none 0 0) ∧ w = w' := by
  refine (callsIn_wide (n := 8)).1 ?_
  refine callsIn_of_wp_marks Try.func54 rfl trivial ?_ rfl
  simp only [Try.ntmps54, List.size_toArray, List.length_cons, List.length_nil, Nat.reduceAdd, Nat.reduceSub, Array.replicate_succ, Array.replicate_zero, List.push_toArray, List.append_toArray, List.nil_append, List.cons_append]
  gi_wp2
  refine ⟨.slice none 0 0, ?_, rfl, rfl⟩
  simp [results, Try.f54, go_sem]
theorem floSample_nil (n : Int) (w : World) : Calls Try.prog 65 #[.pointer none, .int .u64 n] w fun e w' => e = .returned (.tuple #[.string ⟨#[]⟩, .bool false]) ∧ w = w' := by
  go_enter Try.func65, Try.ntmps65
  go_wp2_with fail
  refine (members_nil w).mono ?_
  rintro e w' ⟨rfl, rfl⟩
  go_wp2_with fail
  go_ret2
  exact ⟨rfl, rfl⟩
end Go.Proofs.Ytgomilodeaafdaa
namespace Go.Proofs.Ytgomilodeaafdaa
open Go.RowKit
theorem bytes_ext {a b : ByteArray} (h : a.data.toList = b.data.toList) : a = b := by
  cases a; cases b
  simp only [ByteArray.mk.injEq]
  exact Array.toList_inj.1 h
theorem lawS : Maps.Keyed Try.prog 9 := Maps.string_keyed Try.underlying9
theorem zeroInt (w : World) : (zeroValue 3).run Try.prog w = .ok (.int .i64 0) w := by kernel_rfl
def keyL (s : ByteArray) : Lit := .string s.data.toList
theorem keyL_inj {a b : ByteArray} (h : keyL a = keyL b) : a = b := by
  unfold keyL at h
  injection h with h
  exact bytes_ext h
theorem keyOf_keyL (s : ByteArray) (h : s.size ≤ maxLen) : keyOf Try.prog 9 (.string s) = some (keyL s) := WideMaps.keyOf_string_mk Try.underlying9 h
theorem isKey_keyL (s : ByteArray) : WideAt.IsKeyLit (keyL s) := by unfold keyL; exact trivial
def inL (k : ByteArray) (l : List ByteArray) : Bool := l.any fun x => decide (x = k)
theorem inL_iff {k : ByteArray} {l : List ByteArray} : inL k l = true ↔ k ∈ l := by
  unfold inL
  rw [List.any_eq_true]
  exact ⟨fun ⟨x, hx, e⟩ => (of_decide_eq_true e) ▸ hx, fun h => ⟨k, h, decide_eq_true rfl⟩⟩
theorem inL_no {k : ByteArray} {l : List ByteArray} (h : k ∉ l) : inL k l = false := by
  cases hh : inL k l
  · rfl
  · exact absurd (inL_iff.1 hh) h
theorem inL_snoc (x k : ByteArray) (l : List ByteArray) : inL x (l ++ [k]) = (inL x l || decide (k = x)) := by
  unfold inL
  rw [List.any_append]; simp
/-- how often a text stands in a list -/
def cn (S : List ByteArray) (k : ByteArray) : Nat := (S.filter fun x => decide (x = k)).length
theorem cn_nil (k : ByteArray) : cn [] k = 0 := rfl
theorem cn_append (S T : List ByteArray) (k : ByteArray) : cn (S ++ T) k = cn S k + cn T k := by unfold cn; rw [List.filter_append, List.length_append]
theorem cn_one (x k : ByteArray) : cn [x] k = if x = k then 1 else 0 := by
  unfold cn
  by_cases h : x = k
  · simp [h]
  · simp [h]
theorem cn_pos {S : List ByteArray} {k : ByteArray} : 0 < cn S k ↔ k ∈ S := by
  unfold cn
  rw [List.length_pos_iff, Ne, List.filter_eq_nil_iff]
  constructor
  · intro h
    refine Classical.byContradiction fun hk => h fun a ha => ?_
    rw [decide_eq_true_eq]
    intro e
    exact hk (e ▸ ha)
  · intro h hn
    exact hn k h (decide_eq_true rfl)
theorem cn_zero {S : List ByteArray} {k : ByteArray} (h : k ∉ S) : cn S k = 0 := by
  have := mt cn_pos.1 h
  omega
theorem cn_le (S : List ByteArray) (k : ByteArray) : cn S k ≤ S.length := List.length_filter_le _ _
theorem cn_nodup {S : List ByteArray} (hd : S.Nodup) (k : ByteArray) : cn S k = if inL k S = true then 1 else 0 := by
  by_cases h : k ∈ S
  · rw [if_pos (inL_iff.2 h)]
    obtain ⟨a, b, rfl⟩ := List.append_of_mem h
    have h1 := List.nodup_append.1 hd
    have h2 := List.nodup_cons.1 h1.2.1
    rw [cn_append, show k :: b = [k] ++ b from rfl, cn_append, cn_one, if_pos rfl, cn_zero h2.1, cn_zero (fun e => h1.2.2 k e k (List.mem_cons_self ..) rfl)]
  · rw [if_neg (by rw [inL_no h]; decide), cn_zero h]
theorem cn_perm {S T : List ByteArray} (h : S.Perm T) (k : ByteArray) : cn S k = cn T k := (h.filter _).length_eq
/-- the datum of a map that holds how often each text stands in a list -/
structure CntMap (D : DataW Unit) (S ks : List ByteArray) : Prop where
  at_ : ∀ k : ByteArray, D.atKey (keyL k) (.lit (.int .i64 0)) = .lit (.int .i64 (cn S k : Nat))
  has : ∀ k : ByteArray, Maps.has D (keyL k) = inL k ks
  size : Maps.size D = ks.length
  nodup : ks.Nodup
  mem : ∀ k, k ∈ ks ↔ k ∈ S
theorem cntMap_nil : CntMap (.map []) [] [] := ⟨fun _ => rfl, fun _ => rfl, rfl, List.nodup_nil, fun _ => Iff.rfl⟩
theorem CntMap.put {D : DataW Unit} {S ks : List ByteArray} (h : CntMap D S ks) (hD : Maps.Tidy D) (k : ByteArray) : ∃ ks', CntMap (D.put (keyL k) (.lit (.int .i64 ((cn S k + 1 : Nat) : Int)))) (S ++ [k]) ks' := by
  have hat : ∀ x : ByteArray, (D.put (keyL k) (.lit (.int .i64 ((cn S k + 1 : Nat) : Int)))).atKey (keyL x) (.lit (.int .i64 0)) = .lit (.int .i64 (cn (S ++ [k]) x : Nat)) := fun x => by
    by_cases e : x = k
    · subst e
      rw [Maps.atKey_put_same hD.isMap (isKey_keyL x), cn_append, cn_one, if_pos rfl]
    · rw [Maps.atKey_put_other (fun h => e (keyL_inj h)), h.at_, cn_append, cn_one, if_neg (fun h => e h.symm)]
      rfl
  by_cases hk : k ∈ ks
  · refine ⟨ks, hat, fun x => ?_, ?_, h.nodup, fun x => ?_⟩
    · by_cases e : x = k
      · subst e
        rw [Maps.has_put_same hD.isMap (isKey_keyL x), inL_iff.2 hk]
      · rw [Maps.has_put_other (fun h => e (keyL_inj h)), h.has]
    · rw [Maps.size_put hD, h.has, h.size, inL_iff.2 hk]; rfl
    · rw [h.mem, List.mem_append, List.mem_singleton]
      exact ⟨.inl, fun e => e.elim id (fun e => by rw [e]; exact (h.mem k).1 hk)⟩
  · refine ⟨ks ++ [k], hat, fun x => ?_, ?_, ?_, fun x => ?_⟩
    · by_cases e : x = k
      · subst e
        rw [Maps.has_put_same hD.isMap (isKey_keyL x), inL_snoc, decide_eq_true rfl, Bool.or_true]
      · rw [Maps.has_put_other (fun h => e (keyL_inj h)), h.has, inL_snoc, decide_eq_false (fun h => e h.symm), Bool.or_false]
    · rw [Maps.size_put hD, h.has, h.size, inL_no hk, List.length_append]
      rfl
    · exact List.nodup_append.2 ⟨h.nodup, by simp, fun a ha b hb e => hk (by rw [← List.mem_singleton.1 hb, ← e]; exact ha)⟩
    · rw [List.mem_append, List.mem_append, h.mem]
noncomputable abbrev PI : Value → Option (DataW Unit × List MemPlace) := plainElem Try.prog 3
/-- block m is a map that holds how often each text stands in S -/
def CntAt (w : World) (m : Nat) (S : List ByteArray) : Prop := ∃ (D : DataW Unit) (ks : List ByteArray), w.ownsMap Try.prog 9 PI m S.length D ∧ CntMap D S ks
theorem CntAt.lt {w : World} {m : Nat} {S : List ByteArray} (h : CntAt w m S) : m < w.heap.size := by obtain ⟨D, _, h1, _⟩ := h; exact h1.lt
theorem CntAt.isMap {w : World} {m : Nat} {S : List ByteArray} (h : CntAt w m S) : ∃ es clock, w.heap[m]? = some (.map es clock) := by obtain ⟨D, _, ⟨es, clock, hb, _⟩, _⟩ := h; exact ⟨es, clock, hb⟩
theorem CntAt.fr {w w' : World} {m : Nat} {S : List ByteArray} {T : Nat → Prop} (h : CntAt w m S) (hf : Fr T w w') (hT : ¬ T m) : CntAt w' m S := by
  have hlt := h.lt
  obtain ⟨D, ks, ⟨es, clock, hb, r⟩, h2⟩ := h
  exact ⟨D, ks, ⟨es, clock, (hf.block m hlt hT).trans hb, r⟩, h2⟩
theorem cntAt_made (w : World) : CntAt (w.alloc (.map #[] 0)) w.heap.size [] := ⟨.map [], [], World.ownsMap_made w _ _ _, cntMap_nil⟩
set_option maxRecDepth 100000 in
theorem CntAt.look {w : World} {m : Nat} {S : List ByteArray} (h : CntAt w m S) (k : ByteArray) (hk : k.size ≤ maxLen) :
    (Instr.lookup 157 (.map (some m)) (.string k) false).run Try.prog w = .ok (.int .i64 (cn S k : Nat)) w := by
  obtain ⟨D, ks, h1, h2⟩ := h
  obtain ⟨c, hrun, hv, _⟩ := h1.lookup_int lawS Try.underlying157 Try.underlying3 (zeroInt w) (keyOf_keyL k hk)
  rw [h2.at_] at hv
  rw [hrun]
  injection hv with hv
  injection hv with _ hv
  rw [hv]
set_option maxRecDepth 100000 in
theorem CntAt.put {w : World} {m : Nat} {S : List ByteArray} (h : CntAt w m S) (k : ByteArray) (hk : k.size ≤ maxLen) (hl : S.length < 4611686018427387904) :
    ∃ w', (Instr.mapUpdate 157 (.map (some m)) (.string k) (.int .i64 ((cn S k + 1 : Nat) : Int))).run Try.prog w = .ok () w' ∧ CntAt w' m (S ++ [k]) ∧ Fr (fun i => i = m) w w' := by
  obtain ⟨D, ks, h1, h2⟩ := h
  have hc := cn_le S k
  obtain ⟨w', hrun, h3, h4⟩ := h1.update lawS Try.underlying157 (by unfold maxLen; omega) (keyOf_keyL k hk) (plainElem_int (q := .i64) (a := ((cn S k + 1 : Nat) : Int)) Try.underlying3 (by simp [Lit.wf, IntKind.min, IntKind.max, IntKind.signed, IntKind.bits]; omega))
  obtain ⟨ks', h5⟩ := h2.put (h1.tidy lawS) k
  exact ⟨w', hrun, ⟨_, ks', by rw [List.length_append]; exact h3, h5⟩, (Fr.of_grownBy h4).mono (fun i e _ => (Option.some.inj e).symm)⟩
end Go.Proofs.Ytgomilodeaafdaa
namespace Go.Proofs.Ytgomilodeaafdaa
open Go.RowKit Du
/-- what a flock's Members tells: L; a nil flock's: nothing -/
def MemOf (w : World) (p : Value) (L : List ByteArray) : Prop :=
  (p = .pointer none ∧ L = []) ∨ ∃ B F r d M A, p = .pointer (some ⟨r, 0, none⟩) ∧ FloF w B F r d M A ∧ L.Perm (A.map (·.1)) ∧ L.Pairwise ltS
theorem MemOf.quiet {w w' : World} {p : Value} {L : List ByteArray} (h : MemOf w p L) (hf : Fr (fun _ => False) w w') : MemOf w' p L := by
  rcases h with h | ⟨B, F, r, d, M, A, h1, h2, h3⟩
  · exact .inl h
  · exact .inr ⟨B, F, r, d, M, A, h1, h2.quiet hf, h3⟩
theorem MemOf.size {w : World} {p : Value} {L : List ByteArray} (h : MemOf w p L) : L.length ≤ 1048576 ∧ L.Nodup ∧ ∀ x ∈ L, x.size ≤ 1048576 := by
  rcases h with ⟨_, rfl⟩ | ⟨B, F, r, d, M, A, h1, h2, h3, h4⟩
  · exact ⟨by simp, List.nodup_nil, fun x hx => by cases hx⟩
  · refine ⟨by rw [h3.length_eq, List.length_map]; exact h2.len, h3.nodup_iff.2 h2.like.nodup, fun x hx => ?_⟩
    obtain ⟨y, hy, rfl⟩ := List.mem_map.1 (h3.mem_iff.1 hx)
    exact h2.fit y hy
/-- Members, of a flock or of none -/
theorem memOf_any (w : World) (p : Value) (L : List ByteArray) (h : MemOf w p L) : Calls Try.prog 54 #[p] w fun e w' => ∃ v, e = .returned v ∧ w'.ownsRow w.heap.size 9 1 v L.length (L.map .string) ∧ Fr (fun _ => False) w w' := by
  rcases h with ⟨rfl, rfl⟩ | ⟨B, F, r, d, M, A, rfl, h2, h3, h4⟩
  · refine (members_nil w).mono ?_
    rintro e w' ⟨rfl, rfl⟩
    exact ⟨_, rfl, World.ownsRow_nil _ _ _ _, Fr.refl _ _⟩
  · refine (members_any w B F r d M A h2).mono ?_
    rintro e w' ⟨v, l, rfl, q1, q2, q3, q4⟩
    obtain rfl : l = L := ltS_one (q1.trans h3.symm) q2 h4
    have hl : l.length = A.length := by rw [h3.length_eq, List.length_map]
    rw [← hl] at q3
    exact ⟨v, rfl, q3, q4⟩
/-- a row of flocks -/
structure FlRow (w : World) (v : Value) (ps : List Value) (Ls : List (List ByteArray)) : Prop where
  rd : RdC w 1 v ps.length ps
  len : Ls.length = ps.length
  mem : ∀ (i : Nat) (p : Value) (L : List ByteArray), ps[i]? = some p → Ls[i]? = some L → MemOf w p L
theorem FlRow.quiet {w w' : World} {v : Value} {ps : List Value} {Ls : List (List ByteArray)} (h : FlRow w v ps Ls) (hf : Fr (fun _ => False) w w') : FlRow w' v ps Ls :=
  ⟨h.rd.fr hf (fun _ _ h => h), h.len, fun i p L h1 h2 => (h.mem i p L h1 h2).quiet hf⟩
set_option maxRecDepth 100000 in
set_option maxHeartbeats 2000000 in
theorem counted_any (w : World) (v : Value) (ps : List Value) (Ls : List (List ByteArray)) (h : FlRow w v ps Ls) (hS : Ls.flatten.length < 4611686018427387904) :
    Calls Try.prog 117 #[v] w fun e w' => ∃ m, e = .returned (.map (some m)) ∧ w.heap.size ≤ m ∧ CntAt w' m Ls.flatten ∧ Fr (fun _ => False) w w' := by
  have hlm := h.rd.len
  unfold maxLen at hlm
  have hv := rd_sliceN h.rd
  obtain ⟨va, vc, rfl⟩ := hv
  have H := Lib.hid h
  have HSS := Lib.hid hS
  have hc0 := cntAt_made w
  have hf0 : Fr (fun _ => False) w (w.alloc (.map #[] 0)) := Fr.alloc _ _ _
  have HC0 := Lib.hid hc0
  have HF0 := Lib.hid hf0
  clear h hS hc0 hf0
  have hmm := @run_makeMap Try.prog
  go_enter Try.func117, Try.ntmps117
  go_wp2
  go_loopw [11] (fun i wr => ∃ k : Nat, i = .int .i64 k ∧ k ≤ ps.length ∧ Hid (CntAt wr w.heap.size (Ls.take k).flatten) ∧ Hid (Fr (fun _ => False) w wr)) (fun i _ => ps.length - (intOf i).toNat)
  case atStart => exact ⟨0, rfl, by omega, HC0, HF0⟩
  case round =>
    obtain ⟨k, rfl, hk, HC, HF⟩ := hrel
    obtain ⟨wo, rfl⟩ : ∃ wo, wo = wr := ⟨_, rfl⟩
    clear HC0 HF0
    by_cases hlt : k < ps.length
    · have Ho := H.out.quiet HF.out
      obtain ⟨g, off, rfl, hcell⟩ := Ho.rd.at (by omega)
      obtain ⟨p, hp⟩ : ∃ p, ps[k]? = some p := ⟨_, List.getElem?_eq_getElem hlt⟩
      have hcp := hcell k p hp
      obtain ⟨L, hL⟩ : ∃ L, Ls[k]? = some L := ⟨_, List.getElem?_eq_getElem (by rw [Ho.len]; exact hlt)⟩
      have hmo := Ho.mem k p L hp hL
      obtain ⟨hl1, hl2, hl3⟩ := hmo.size
      have HL3 := Lib.hid hl3
      have HMO := Lib.hid (memOf_any wo p L hmo)
      have hLk : k < Ls.length := by rw [Ho.len]; exact hlt
      have hsucc : (Ls.take (k + 1)).flatten = (Ls.take k).flatten ++ L := by
        rw [List.take_succ_eq_append_getElem hLk, List.flatten_append, List.flatten_singleton]
        rw [List.getElem?_eq_getElem hLk] at hL
        rw [Option.some.inj hL]
      have hbnd : (Ls.take k).flatten.length + L.length ≤ Ls.flatten.length := by
        have h1 : ((Ls.take (k + 1)).flatten).length ≤ Ls.flatten.length := by
          have h2 := List.take_append_drop (k + 1) Ls
          conv => rhs; rw [← h2]
          rw [List.flatten_append, List.length_append]
          exact Nat.le_add_right _ _
        rw [hsucc, List.length_append] at h1
        exact h1
      have HSU := Lib.hid hsucc
      have HBN := Lib.hid hbnd
      have b0 : (0 : Int) ≤ (k : Int) := by omega
      have b1 : (k : Int) < (ps.length : Int) := by omega
      clear Ho hcell hp hL hmo hl2 hl3 hsucc hbnd hLk
      go_wp2_with fail
      refine HMO.out.mono ?_
      rintro e w1 ⟨v1, rfl, hr1, hf1⟩
      obtain ⟨ra, rc, rfl⟩ := ow_sliceN hr1
      have HR1 := Lib.hid hr1
      have HF1 := Lib.hid (HF.out.trans hf1 (fun _ h _ => h))
      have HC1 : Hid (CntAt w1 w.heap.size ((Ls.take k).flatten ++ L.take 0)) := by
        show CntAt _ _ _
        rw [List.take_zero, List.append_nil]
        exact HC.out.fr hf1 (fun h => h)
      have HNM : Hid (¬ (Value.slice ra L.length rc).ownBlock = some w.heap.size) := fun e => by
        obtain ⟨es, cl, hb⟩ := HC1.out.isMap
        obtain ⟨_, _, cs, hb2⟩ := own_blk hr1 e
        rw [hb] at hb2
        cases hb2
      clear hr1 hf1 HMO HC
      go_wp2_with fail
      go_loopw [18] (fun i wr => ∃ j : Nat, i = .int .i64 j ∧ j ≤ L.length ∧ Hid (CntAt wr w.heap.size ((Ls.take k).flatten ++ L.take j)) ∧ Hid (Fr (fun i => i = w.heap.size) w1 wr)) (fun i _ => L.length - (intOf i).toNat)
      case atStart => exact ⟨0, rfl, by omega, HC1, Fr.refl _ _⟩
      case round =>
        obtain ⟨j, rfl, hj, HCJ, HFJ⟩ := hrel
        obtain ⟨wz, rfl⟩ : ∃ wz, wz = wr := ⟨_, rfl⟩
        clear HC1
        by_cases hlj : j < L.length
        · have hr2 := ow_fr HR1.out HFJ.out (fun g hg e => HNM.out (by rw [← show g = w.heap.size from e]; exact hg))
          obtain ⟨g1, o1, rfl, c1⟩ := texts_at (RdC.of_owns hr2) j hlj
          have hsz := HL3.out L[j] (List.getElem_mem hlj)
          obtain ⟨x, hx⟩ : ∃ x, L[j] = x := ⟨_, rfl⟩
          rw [hx] at c1 hsz
          have hxk : x.size ≤ maxLen := by unfold maxLen; omega
          have hlen : ((Ls.take k).flatten ++ L.take j).length < 4611686018427387904 := by
            rw [List.length_append, List.length_take]
            have := HBN.out
            have := HSS.out
            omega
          have hlook := HCJ.out.look x hxk
          obtain ⟨w2, hput, hc2, hf2⟩ := HCJ.out.put x hxk hlen
          have hcle := cn_le ((Ls.take k).flatten ++ L.take j) x
          have hnext : ((Ls.take k).flatten ++ L.take j) ++ [x] = (Ls.take k).flatten ++ L.take (j + 1) := by
            rw [List.take_succ_eq_append_getElem hlj, hx, List.append_assoc]
          rw [hnext] at hc2
          obtain ⟨cc, hcc⟩ : ∃ c, cn ((Ls.take k).flatten ++ L.take j) x = c := ⟨_, rfl⟩
          rw [hcc] at hlook hput hcle
          have e1 : IntKind.i64.wrap ((cc : Int) + 1) = (cc : Int) + 1 := IntWalk.i64_in _ (by omega)
          rw [show ((cc + 1 : Nat) : Int) = (cc : Int) + 1 by omega] at hput
          have HC2 := Lib.hid hc2
          have HF2 := Lib.hid ((HFJ.out).trans hf2 (fun _ h _ => h))
          have b2 : (0 : Int) ≤ (j : Int) := by omega
          have b3 : (j : Int) < (L.length : Int) := by omega
          clear hr2 hsz hx hlen hc2 hf2 hnext hcc hcle hxk
          go_wp2_with fail
          go_roundw
          case rel => exact ⟨j + 1, by go_num, by omega, HC2, HF2⟩
          case measure => simp [intOf]; omega
        · obtain rfl : j = L.length := by omega
          rw [List.take_length, ← HSU.out] at HCJ
          have HF9 : Hid (Fr (fun _ => False) w wz) := HF1.out.wide HFJ.out (fun i hi => .inr (by rw [show i = w.heap.size from hi]; exact Nat.le_refl _))
          go_wp2_with fail
          go_roundw
          case rel => exact ⟨k + 1, by go_num, by omega, HCJ, HF9⟩
          case measure => simp [intOf]; omega
    · obtain rfl : k = ps.length := by omega
      have hall : Ls.take ps.length = Ls := by rw [← H.out.len, List.take_length]
      rw [hall] at HC
      go_wp2_with fail
      go_ret
      exact ⟨_, rfl, Nat.le_refl _, HC.out, HF.out⟩
end Go.Proofs.Ytgomilodeaafdaa
namespace Go.Proofs.Ytgomilodeaafdaa
open Go.RowKit Go.Shelf Go.Sort
abbrev TxS := { x : ByteArray // x.size ≤ maxLen }
instance : Inhabited TxS := ⟨⟨⟨#[]⟩, by decide⟩⟩
def encT (x : TxS) : Value := .string x.1
theorem heap_putE {α : Type} [Inhabited α] (enc : α → Value) {w : World} {g n : Nat} {cur : Array Value} {e : TypeId} {fr : Nat × Nat} (d : Array α) (hb : w.heap[g]? = some (.cells cur e fr)) :
    (putRow enc (Sort.ahead w n) g 0 d).heap[g]? = some (.cells (putCells enc 0 d cur) e fr) := by
  simp [putRow, mapBlock, Sort.ahead, Array.getElem?_modify, hb, onCells]
theorem fr_putE {α : Type} [Inhabited α] (enc : α → Value) (w : World) (g n : Nat) (os : Array Obj) (d : Array α) : Fr (fun i => i = g) w (grow (putRow enc (Sort.ahead w n) g 0 d) os) := by
  refine ⟨rfl, rfl, rfl, by simp, fun k hk hne => ?_⟩
  rw [heap_grow_old _ _ (by simpa using hk)]
  have : g ≠ k := fun e => hne e.symm
  simp [putRow, mapBlock, Sort.ahead, Array.getElem?_modify, this]
theorem fr_putE0 {α : Type} [Inhabited α] (enc : α → Value) (w : World) (g n : Nat) (d : Array α) : Fr (fun i => i = g) w (putRow enc (Sort.ahead w n) g 0 d) := by
  refine ⟨rfl, rfl, rfl, by simp, fun k hk hne => ?_⟩
  have : g ≠ k := fun e => hne e.symm
  simp [putRow, mapBlock, Sort.ahead, Array.getElem?_modify, this]
theorem take_putE {α : Type} [Inhabited α] (enc : α → Value) (cur : Array Value) (ts rest : List α) (h : (ts ++ rest).length ≤ cur.size) : (putCells enc 0 (ts ++ rest).toArray cur).toList.take ts.length = ts.map enc := by
  rw [List.length_append] at h
  apply List.ext_getElem?
  intro j
  by_cases hj : j < ts.length
  · rw [List.getElem?_take_of_lt hj, Array.getElem?_toList, List.getElem?_map, List.getElem?_eq_getElem hj]
    have h1 : j < cur.size := by omega
    have h2 : j < (ts ++ rest).length := by rw [List.length_append]; omega
    have h3 : j < ts.length + rest.length := by omega
    simp [putCells, h1, h3, List.getElem_append_left hj, hj]
  · rw [List.getElem?_take_eq_none (by omega), List.getElem?_eq_none (by rw [List.length_map]; omega)]
/-- what the closure of ofFirst holds on to -/
structure DelAt (w : World) (bi bn m : Nat) (S : List ByteArray) (n : Int) : Prop where
  bi_ : w.heap[bi]? = some (.cells #[.map (some m)] 157 (0, 0))
  bn_ : w.heap[bn]? = some (.cells #[.int .i64 n] 3 (0, 0))
  map : CntAt w m S
theorem DelAt.fr {w w' : World} {bi bn m : Nat} {S : List ByteArray} {n : Int} {T : Nat → Prop} (h : DelAt w bi bn m S n) (hf : Fr T w w') (h1 : ¬ T bi) (h2 : ¬ T bn) (h3 : ¬ T m) : DelAt w' bi bn m S n :=
  ⟨(hf.block _ (Array.getElem?_eq_some_iff.1 h.bi_).1 h1).trans h.bi_, (hf.block _ (Array.getElem?_eq_some_iff.1 h.bn_).1 h2).trans h.bn_, h.map.fr hf h3⟩
theorem del1_any (W : World) (bi bn m : Nat) (S : List ByteArray) (n : Int) (x : TxS) (h : DelAt W bi bn m S n) :
    Calls Try.prog 174 #[.string x.1, .pointer (some ⟨bi, 0, none⟩), .pointer (some ⟨bn, 0, none⟩)] W fun e w' => e = .returned (.bool (decide ((cn S x.1 : Int) ≠ n))) ∧ ∃ q, w' = W.drewN q := by
  have c1 : W.cell? ⟨bi, 0, none⟩ = some (.map (some m)) := cell_of_blk h.bi_ 0
  have c2 : W.cell? ⟨bn, 0, none⟩ = some (.int .i64 n) := cell_of_blk h.bn_ 0
  have hlook := h.map.look x.1 x.2
  obtain ⟨y, hy⟩ : ∃ y, x.1 = y := ⟨_, rfl⟩
  rw [hy] at hlook ⊢
  obtain ⟨cc, hcc⟩ : ∃ c, cn S y = c := ⟨_, rfl⟩
  rw [hcc] at hlook ⊢
  have hd : decide ((cc : Int) ≠ n) = ((cc : Int) != n) := by
    by_cases e : (cc : Int) = n
    · simp [e]
    · simp [e]
  rw [hd]
  clear h hy hcc hd
  go_enter Try.func174, Try.ntmps174
  go_wp2
  go_ret
  exact ⟨rfl, 0, rfl⟩
theorem eg174 : ∀ args w, (callFunc 174 args).run Try.prog w = .ok (.enter 174 args) w := enters_of Try.func174 (by kernel_rfl) rfl
theorem zeroStr (w : World) : (zeroValue 9).run Try.prog w = .ok (encT ⟨⟨#[]⟩, by decide⟩) w := by kernel_rfl
theorem index_nil (w : World) (f : Value) : Calls Try.prog 214 #[.slice none 0 0, f] w fun e w' => e = .returned (.int .i64 (-1)) ∧ w = w' := by
  go_enter Try.func214, Try.ntmps214
  go_wp2
  go_loopw [8] (fun i wr => i = .int .i64 0 ∧ Hid (w = wr)) (fun i _ => 0)
  case atStart => exact ⟨rfl, rfl⟩
  case round =>
    obtain ⟨rfl, HW⟩ := hrel
    go_wp2
    go_ret
    exact ⟨rfl, HW.out⟩
theorem delS_nil (w : World) (f : Value) : Calls Try.prog 173 #[.slice none 0 0, f] w fun e w' => e = .returned (.slice none 0 0) ∧ w = w' := by
  go_enter Try.func173, Try.ntmps173
  go_wp2_with fail
  refine (index_nil w f).mono ?_
  rintro e w' ⟨rfl, rfl⟩
  go_wp2_with fail
  go_ret
  exact ⟨rfl, rfl⟩
/-- those of a list that stand n times in S -/
def chosenBy (S : List ByteArray) (n : Int) (l : List ByteArray) : List ByteArray := l.filter fun x => decide ((cn S x : Int) = n)
theorem attach_filter (S : List ByteArray) (n : Int) (l : List ByteArray) (hz : ∀ x ∈ l, x.size ≤ maxLen) : ∃ d : List TxS, d.map (·.1) = l ∧ (d.filter fun x => !decide ((cn S x.1 : Int) ≠ n)).map (·.1) = chosenBy S n l := by
  induction l with
  | nil => exact ⟨[], rfl, rfl⟩
  | cons x l ih =>
    obtain ⟨d, h1, h2⟩ := ih (fun y hy => hz y (List.mem_cons_of_mem _ hy))
    refine ⟨⟨x, hz x (List.mem_cons_self ..)⟩ :: d, by rw [List.map_cons, h1], ?_⟩
    unfold chosenBy at h2 ⊢
    by_cases e : (cn S x : Int) = n
    · simp [e] at h2 ⊢; exact h2
    · simp [e] at h2 ⊢; exact h2
theorem delS_any (w : World) (B : Nat) (v : Value) (l : List ByteArray) (h : w.ownsRow B 9 1 v l.length (l.map .string)) (hz : ∀ x ∈ l, x.size ≤ maxLen) (bi bn m : Nat) (S : List ByteArray) (n : Int) (hd : DelAt w bi bn m S n) :
    Calls Try.prog 173 #[v, .func (.func 174) #[] #[.pointer (some ⟨bi, 0, none⟩), .pointer (some ⟨bn, 0, none⟩)]] w fun e w' => ∃ v', e = .returned v' ∧ w'.ownsRow B 9 1 v' (chosenBy S n l).length ((chosenBy S n l).map .string) ∧ Fr (fun i => v.ownBlock = some i) w w' := by
  obtain ⟨hl, ⟨rfl, h0⟩ | ⟨g, cap, cur, rfl, hbase, hb, h1, h2, h3, h4⟩⟩ := h
  · obtain rfl : l = [] := List.length_eq_zero_iff.1 h0
    refine (delS_nil w _).mono ?_
    rintro e w' ⟨rfl, rfl⟩
    exact ⟨_, rfl, World.ownsRow_nil _ _ _ _, Fr.refl _ _⟩
  · obtain ⟨d, hd1, hd2⟩ := attach_filter S n l hz
    have hdl : d.length = l.length := by rw [← hd1, List.length_map]
    have hgl : g < w.heap.size := (Array.getElem?_eq_some_iff.1 hb).1
    have hbi : ¬ bi = g := fun e => by have := hd.bi_; rw [e, hb] at this; simp only [Option.some.injEq, Obj.cells.injEq] at this; exact absurd this.2.1 (by decide)
    have hbn : ¬ bn = g := fun e => by have := hd.bn_; rw [e, hb] at this; simp only [Option.some.injEq, Obj.cells.injEq] at this; exact absurd this.2.1 (by decide)
    have hbm : ¬ m = g := fun e => by obtain ⟨es, cl, hm⟩ := hd.map.isMap; rw [e, hb] at hm; cases hm
    have hbi' := (Array.getElem?_eq_some_iff.1 hd.bi_).1
    have hbn' := (Array.getElem?_eq_some_iff.1 hd.bn_).1
    have hH : Holds encT w g 0 d.toArray := by
      intro j hj
      have hj' : j < d.length := by simpa using hj
      have hjc : (l.map Value.string)[j]? = some (encT d[j]) := by rw [← hd1, List.getElem?_map, List.getElem?_map, List.getElem?_eq_getElem hj']; rfl
      have e1 : d.toArray[j]! = d[j] := by rw [getElem!_pos d.toArray j hj]; simp
      rw [e1, Nat.zero_add]
      refine ⟨?_, free_of_blk hb j⟩
      rw [cell_of_blk hb]
      rw [← h4, List.getElem?_take] at hjc
      split at hjc
      · simpa using hjc
      · cases hjc
    have hC := AnyE.slices_DeleteFunc Try.delS encT (fun _ => rfl) (fun x : TxS => decide ((cn S x.1 : Int) ≠ n)) 174 #[.pointer (some ⟨bi, 0, none⟩), .pointer (some ⟨bn, 0, none⟩)] eg174 ⟨⟨#[]⟩, by decide⟩ zeroStr g 0 cap d.toArray w
      (fun W x hbw => del1_any W bi bn m S n x (hd.fr (fr_bel hbw) (fun h => h) (fun h => h) (fun h => h)))
      (fun q os dk x _ => del1_any _ bi bn m S n x (hd.fr (fr_putE encT w g q os dk) (fun e => hbi e) (fun e => hbn e) (fun e => hbm e))) hH (by simp only [List.size_toArray]; rw [hdl]; unfold maxLen at h2; omega) (by simp only [List.size_toArray]; rw [hdl]; exact h1)
    have hsz : d.toArray.size = l.length := by simp [hdl]
    rw [hsz] at hC
    refine hC.mono ?_
    rintro e w' ⟨rfl, q, rfl⟩
    have hfl : (d.toArray.toList.filter fun x => !decide ((cn S x.1 : Int) ≠ n)).length = (chosenBy S n l).length := by rw [← hd2, List.length_map]
    have hle : (chosenBy S n l).length ≤ l.length := List.length_filter_le _ _
    refine ⟨_, rfl, ?_, (fr_putE0 encT w g q _).mono (fun i hi _ => by rw [show i = g from hi]; rfl)⟩
    refine ⟨by rw [List.length_map, Nat.mul_one], .inr ⟨g, cap, _, by rw [hfl], hbase, heap_putE encT _ hb, by omega, h2, by simp [putCells, h3], ?_⟩⟩
    have hfl2 : (d.filter fun x => !decide ((cn S x.1 : Int) ≠ n)).length = (chosenBy S n l).length := hfl
    have ht := take_putE encT cur (d.filter fun x => !decide ((cn S x.1 : Int) ≠ n)) (List.replicate (l.length - (d.toArray.toList.filter fun x => !decide ((cn S x.1 : Int) ≠ n)).length) ⟨⟨#[]⟩, by decide⟩) (by
      rw [List.length_append, List.length_replicate, hfl, h3]
      omega)
    have hml : (d.filter fun x => !decide ((cn S x.1 : Int) ≠ n)).map encT = (chosenBy S n l).map .string := by rw [← hd2, List.map_map]; rfl
    rw [hml] at ht
    rw [Nat.mul_one, ← hfl2]
    exact ht
end Go.Proofs.Ytgomilodeaafdaa
namespace Go.Proofs.Ytgomilodeaafdaa
open Go.RowKit
set_option maxRecDepth 100000 in
set_option maxHeartbeats 1000000 in
theorem same10_any (w : World) (v1 v2 : Value) (l1 l2 : List ByteArray) (h1 : RdC w 1 v1 l1.length (l1.map .string)) (h2 : RdC w 1 v2 l2.length (l2.map .string)) :
    Calls Try.prog 46 #[v1, v2] w fun e w' => e = .returned (.bool (decide (l1 = l2))) ∧ ∃ m, w' = w.drewN m := by
  have hm1 := h1.len
  have hm2 := h2.len
  unfold maxLen at hm1 hm2
  have H1 := Lib.hid h1
  have H2 := Lib.hid h2
  obtain ⟨-, a1, c1, rfl, -⟩ := h1
  obtain ⟨-, a2, c2, rfl, -⟩ := h2
  by_cases hl : l1.length = l2.length
  case neg =>
    have hne : decide (l1 = l2) = false := decide_eq_false (fun e => hl (by rw [e]))
    have g : ((l1.length : Int) != l2.length) = true := by rw [bne_iff_ne]; omega
    rw [hne]
    clear hne hl
    go_enter Try.func46, Try.ntmps46
    go_wp2
    go_ret
    exact ⟨rfl, 0, rfl⟩
  case pos =>
    have g : ((l1.length : Int) != l2.length) = false := by rw [bne_eq_false_iff_eq]; omega
    have HL := Lib.hid hl
    clear hl
    go_enter Try.func46, Try.ntmps46
    go_wp2
    go_loopw [13] (fun i wr => ∃ k m : Nat, i = .int .i64 k ∧ k ≤ l1.length ∧ Hid (wr = w.drewN m) ∧ Hid (l1.take k = l2.take k)) (fun i _ => l1.length - (intOf i).toNat)
    case atStart => exact ⟨0, 0, rfl, by omega, (show w = w.drewN 0 from rfl), (show _ = _ from rfl)⟩
    case round =>
      obtain ⟨k, m, rfl, hk, HW, HE⟩ := hrel
      obtain ⟨wo, rfl⟩ : ∃ wo, wo = wr := ⟨_, rfl⟩
      by_cases hlt : k < l1.length
      · have hlt2 : k < l2.length := by have := HL.out; omega
        have hb1 : (k : Int) < (l1.length : Int) := by omega
        have hb2 : (k : Int) < (l2.length : Int) := by omega
        have hb0 : (0 : Int) ≤ (k : Int) := by omega
        obtain ⟨g1, o1, rfl, c1⟩ := texts_at H1.out k hlt
        obtain ⟨g2, o2, rfl, c2⟩ := texts_at H2.out k hlt2
        have c1' : wo.cell? ⟨g1, o1 + k, none⟩ = some (.string l1[k]) := by rw [HW.out]; exact c1
        have c2' : wo.cell? ⟨g2, o2 + k, none⟩ = some (.string l2[k]) := by rw [HW.out]; exact c2
        obtain ⟨x, hx⟩ : ∃ x, l1[k] = x := ⟨_, rfl⟩
        obtain ⟨y, hy⟩ : ∃ y, l2[k] = y := ⟨_, rfl⟩
        rw [hx] at c1'
        rw [hy] at c2'
        have HX := Lib.hid hx
        have HY := Lib.hid hy
        clear c1 c2 hx hy
        by_cases hxy : x = y
        · have hq : (x.toList == y.toList) = true := by rw [str_beq]; simpa using hxy
          have hq2 : (x.toList != y.toList) = false := by simp [bne, hq]
          have hts : Hid (l1.take (k + 1) = l2.take (k + 1)) := by
            show _ = _
            rw [List.take_succ_eq_append_getElem hlt, List.take_succ_eq_append_getElem hlt2, HE.out, HX.out, HY.out, hxy]
          clear hxy
          go_upto_region 6 with (fail)
          go_quiet (fail)
          go_wp2
          go_roundw
          case rel => exact ⟨k + 1, m + nq, by go_num, by omega, (show wo.drewN nq = _ by rw [HW.out]; exact drewN_drewN _ _ _), hts⟩
          case measure => simp [intOf]; omega
        · have hq : (x.toList == y.toList) = false := by rw [str_beq]; simpa using hxy
          have hq2 : (x.toList != y.toList) = true := by simp [bne, hq]
          have hne : decide (l1 = l2) = false := decide_eq_false (fun e => hxy (by rw [← HX.out, ← HY.out]; subst e; rfl))
          have HNE := Lib.hid hne
          clear hne hxy
          go_upto_region 6 with (fail)
          go_quiet (fail)
          go_wp2
          go_ret
          exact ⟨by rw [HNE.out]; rfl, m + nq, by rw [HW.out]; exact drewN_drewN _ _ _⟩
      · obtain rfl : k = l1.length := by omega
        have heq : decide (l1 = l2) = true := decide_eq_true (by have := HE.out; rwa [List.take_length, HL.out, List.take_length] at this)
        have HNE := Lib.hid heq
        clear heq
        go_wp2
        go_ret
        exact ⟨by rw [HNE.out]; rfl, m, HW.out⟩
end Go.Proofs.Ytgomilodeaafdaa
namespace Go.Proofs.Ytgomilodeaafdaa
open Go.RowKit Go.Shelf Go.Sort
set_option maxRecDepth 100000 in
set_option maxHeartbeats 1000000 in
theorem ofFirst_any (w : World) (v : Value) (ps : List Value) (Ls : List (List ByteArray)) (L0 : List ByteArray) (h : FlRow w v ps Ls) (hS : Ls.flatten.length < 4611686018427387904) (h0 : Ls[0]? = some L0) (n : Int) :
    Calls Try.prog 119 #[v, .int .i64 n] w fun e w' => ∃ v', e = .returned v' ∧ w'.ownsRow w.heap.size 9 1 v' (chosenBy Ls.flatten n L0).length ((chosenBy Ls.flatten n L0).map .string) ∧ Fr (fun _ => False) w w' := by
  have hlm := h.rd.len
  unfold maxLen at hlm
  obtain ⟨va, vc, rfl⟩ := rd_sliceN h.rd
  have hpos : 0 < ps.length := by rw [← h.len]; exact (List.getElem?_eq_some_iff.1 h0).1
  obtain ⟨p, hp⟩ : ∃ p, ps[0]? = some p := ⟨_, List.getElem?_eq_getElem hpos⟩
  obtain ⟨W0, hW0⟩ : ∃ W0, w.alloc (.cells #[.int .i64 n] 3) = W0 := ⟨_, rfl⟩
  have hf0 : Fr (fun _ => False) w W0 := by rw [← hW0]; exact Fr.alloc _ _ _
  have hb0 : W0.heap[w.heap.size]? = some (.cells #[.int .i64 n] 3 (0, 0)) := by rw [← hW0]; exact alloc_new w _
  have HC := Lib.hid (counted_any W0 _ ps Ls (h.quiet hf0) hS)
  have H := Lib.hid h
  have HF0 := Lib.hid hf0
  have HB0 := Lib.hid hb0
  have HP := Lib.hid hp
  have HL0 := Lib.hid h0
  have g0 : ((ps.length : Int) == 0) = false := beq_eq_false_iff_ne.2 (by omega)
  clear h h0 hp hf0 hb0 hS
  go_enter Try.func119, Try.ntmps119
  go_wp2_with fail
  try rw [hW0]
  refine HC.out.mono ?_
  rintro e w1 ⟨m, rfl, hm1, hc1, hf1⟩
  obtain ⟨W2, hW2⟩ : ∃ W2, w1.alloc (.cells #[.map (some m)] 157) = W2 := ⟨_, rfl⟩
  have hf2 : Fr (fun _ => False) w1 W2 := by rw [← hW2]; exact Fr.alloc _ _ _
  have HD : Hid (DelAt W2 w1.heap.size w.heap.size m Ls.flatten n) := ⟨by rw [← hW2]; exact alloc_new w1 _, (hf2.block _ (Nat.lt_of_lt_of_le (Array.getElem?_eq_some_iff.1 HB0.out).1 hf1.size) (fun h => h)).trans ((hf1.block _ (Array.getElem?_eq_some_iff.1 HB0.out).1 (fun h => h)).trans HB0.out), hc1.fr hf2 (fun h => h)⟩
  have HF2 : Hid (Fr (fun _ => False) w W2) := (HF0.out.trans hf1 (fun _ h _ => h)).trans hf2 (fun _ h _ => h)
  have h2 := H.out.quiet HF2.out
  obtain ⟨g, off, rfl, hcell⟩ := h2.rd.at hpos
  have hcp := hcell 0 p HP.out
  rw [Nat.add_zero] at hcp
  have hmo := h2.mem 0 p L0 HP.out HL0.out
  have HMO := Lib.hid (memOf_any W2 p L0 hmo)
  have HSZ := Lib.hid hmo.size
  clear hW0 hm1 hc1 hf1 hf2 h2 hcell hmo HC
  go_wp2_with fail
  try rw [hW2]
  refine HMO.out.mono ?_
  rintro e w3 ⟨v3, rfl, hr3, hf3⟩
  have HD3 := Lib.hid (HD.out.fr hf3 (fun h => h) (fun h => h) (fun h => h))
  have HDS := Lib.hid (delS_any w3 W2.heap.size v3 L0 hr3 (fun x hx => by have := HSZ.out.2.2 x hx; unfold maxLen; omega) _ _ _ _ _ HD3.out)
  have HR3 := Lib.hid hr3
  have HF3 := Lib.hid (HF2.out.trans hf3 (fun _ h _ => h))
  have HSZ2 : Hid (w.heap.size ≤ W2.heap.size) := HF2.out.size
  clear hr3 hf3 hW2 HMO
  go_wp2_with fail
  refine HDS.out.mono ?_
  rintro e w4 ⟨v4, rfl, hr4, hf4⟩
  go_wp2_with fail
  go_ret
  refine ⟨v4, rfl, ow_base hr4 HSZ2.out, HF3.out.wide hf4 (fun i hi => .inr ?_)⟩
  have := (own_blk HR3.out hi).1
  have := HSZ2.out
  omega
theorem ofFirst_nil (w : World) (v : Value) (h : RdC w 1 v 0 []) (n : Int) : Calls Try.prog 119 #[v, .int .i64 n] w fun e w' => e = .returned (.slice none 0 0) ∧ Fr (fun _ => False) w w' := by
  obtain ⟨va, vc, rfl⟩ := rd_sliceN h
  have hf : Fr (fun _ => False) w (w.alloc (.cells #[.int .i64 n] 3)) := Fr.alloc _ _ _
  have HF := Lib.hid hf
  clear h hf
  go_enter Try.func119, Try.ntmps119
  go_wp2_with fail
  go_ret
  exact ⟨rfl, HF.out⟩
/-- what a choice hands back -/
def ChPost (w : World) (l : List ByteArray) (e : Ending) (w' : World) : Prop := ∃ v, e = .returned v ∧ w'.ownsRow w.heap.size 9 1 v l.length (l.map .string) ∧ Fr (fun _ => False) w w'
/-- those in all of several -/
def interL (Ls : List (List ByteArray)) : List ByteArray := chosenBy Ls.flatten Ls.length (Ls.headD [])
def diffL (Ls : List (List ByteArray)) : List ByteArray := chosenBy Ls.flatten 1 (Ls.headD [])
theorem inter_any (w : World) (v : Value) (ps : List Value) (Ls : List (List ByteArray)) (h : FlRow w v ps Ls) (hS : Ls.flatten.length < 4611686018427387904) :
    Calls Try.prog 44 #[v] w (ChPost w (interL Ls)) := by
  have hlm := h.rd.len
  unfold maxLen at hlm
  have key : Hid (Calls Try.prog 119 #[v, .int .i64 (ps.length : Int)] w (ChPost w (interL Ls))) := by
    show Calls _ _ _ _ _
    cases hL : Ls with
    | nil =>
      have hp : ps = [] := List.length_eq_zero_iff.1 (by rw [← h.len, hL]; rfl)
      have hr := h.rd
      rw [hp] at hr
      rw [hp]
      refine (ofFirst_nil w v hr 0).mono ?_
      rintro e w' ⟨rfl, hf⟩
      exact ⟨_, rfl, World.ownsRow_nil _ _ _ _, hf⟩
    | cons L0 Lr =>
      have := ofFirst_any w v ps Ls L0 h hS (by rw [hL]; rfl) (ps.length : Int)
      rw [← h.len, hL] at this
      refine (by rw [← h.len, hL]; exact this)
  obtain ⟨va, vc, rfl⟩ := rd_sliceN h.rd
  clear h hS
  go_enter Try.func44, Try.ntmps44
  go_wp2_with fail
  refine key.out.mono ?_
  rintro e w1 ⟨v1, rfl, h1⟩
  go_wp2_with fail
  go_ret
  exact ⟨v1, rfl, h1⟩
theorem diff_any (w : World) (v : Value) (ps : List Value) (Ls : List (List ByteArray)) (h : FlRow w v ps Ls) (hS : Ls.flatten.length < 4611686018427387904) :
    Calls Try.prog 45 #[v] w (ChPost w (diffL Ls)) := by
  have key : Hid (Calls Try.prog 119 #[v, .int .i64 1] w (ChPost w (diffL Ls))) := by
    show Calls _ _ _ _ _
    cases hL : Ls with
    | nil =>
      have hp : ps = [] := List.length_eq_zero_iff.1 (by rw [← h.len, hL]; rfl)
      have hr := h.rd
      rw [hp] at hr
      refine (ofFirst_nil w v hr 1).mono ?_
      rintro e w' ⟨rfl, hf⟩
      exact ⟨_, rfl, World.ownsRow_nil _ _ _ _, hf⟩
    | cons L0 Lr =>
      have := ofFirst_any w v ps Ls L0 h hS (by rw [hL]; rfl) 1
      rw [hL] at this
      exact this
  clear h hS
  go_enter Try.func45, Try.ntmps45
  go_wp2_with fail
  refine key.out.mono ?_
  rintro e w1 ⟨v1, rfl, h1⟩
  go_wp2_with fail
  go_ret
  exact ⟨v1, rfl, h1⟩
end Go.Proofs.Ytgomilodeaafdaa
namespace Go.Proofs.Ytgomilodeaafdaa
open Go.RowKit Du
structure Fc (K : Nat) (w0 w : World) (F : Nat → Prop) (r d : Nat) (M : DM) (A : List Me) : Prop where
  ff : FloF w w0.heap.size F r d M A
  bel : Below w0.heap.size w0 w
  lens : Lens M K
  few : A.length ≤ K
section
variable {K K' : Nat} {w0 w w' : World} {F T : Nat → Prop} {r d : Nat} {M M' : DM} {A A' : List Me}
theorem Fc.away (h : Fc K w0 w F r d M A) {v : Value} {e : TypeId} {s n : Nat} {xs : List Value} (hr : w'.ownsRow w.heap.size e s v n xs) : Aw F v := fun g hg k => by
  have := (h.ff.lt g k).2
  have := (own_blk hr hg).1
  omega
theorem Fc.got (h : Fc K w0 w F r d M A) (g : FloGot w w0.heap.size F r d M' A' w') (hl : Lens M' K') (hk : A'.length ≤ K') : Fc K' w0 w' (Grew F w w') r d M' A' :=
  ⟨g.1, h.bel.trans (g.2.below h.bel.size fun i hi => (h.ff.lt i hi).1), hl, hk⟩
theorem Fc.other (h : Fc K w0 w F r d M A) (hf : Fr T w w') (hT : ∀ k, F k → ¬ T k) (hB : ∀ k, T k → w0.heap.size ≤ k) : Fc K w0 w' F r d M A :=
  ⟨h.ff.other hf hT, h.bel.trans (hf.below h.bel.size hB), h.lens, h.few⟩
theorem Fc.quiet (h : Fc K w0 w F r d M A) (hf : Fr (fun _ => False) w w') : Fc K w0 w' F r d M A := h.other hf (fun _ _ h => h) (fun _ h => h.elim)
theorem Fc.mono (h : Fc K w0 w F r d M A) (hk : K ≤ K') : Fc K' w0 w F r d M A := ⟨h.ff, h.bel, h.lens.mono hk, Nat.le_trans h.few hk⟩
theorem Fc.count (h : Fc K w0 w F r d M A) : M.n = A.length := h.ff.like.count
theorem Fc.lensStep (h : Fc K w0 w F r d M A) : Lens (stepM M) K := h.lens.step
theorem Fc.stepN (h : Fc K w0 w F r d M A) : (stepM M).n ≤ K := by rw [(step_lens M).2.2.2, h.count]; exact h.few
end
theorem fc_new (w0 w : World) (seed : UInt64) (hb : Below w0.heap.size w0 w) : Calls Try.prog 34 #[.int .u64 (wd seed)] w fun e w' => ∃ r d M F, e = .returned (.pointer (some ⟨r, 0, none⟩)) ∧ Fc 0 w0 w' F r d M [] ∧ M.seed = seed ∧ Below w.heap.size w w' ∧ ∀ k, F k → w.heap.size ≤ k := by
  refine (floNew_any w seed).mono ?_
  rintro e w' ⟨r, d, h1, h2, h3⟩
  exact ⟨r, d, _, _, h1, ⟨h2.base hb.size, hb.trans (h3.mono hb.size), by unfold Lens; simp, Nat.le_refl _⟩, rfl, h3, fun k hk => hk.1⟩
section
variable (w0 w : World) (K : Nat) (F : Nat → Prop) (r d : Nat) (M : DM) (A : List Me) (key : ByteArray)
/-- what a call that turns a record leaves -/
def FcTo (A' : List Me) (K' : Nat) (w' : World) : Prop := ∃ M', Fc K' w0 w' (Grew F w w') r d M' A' ∧ M'.seed = M.seed ∧ Fr F w w'
theorem fc_add (h : Fc K w0 w F r d M A) (hf : key.size ≤ 1048576) (hK : K < 1048576) :
    Calls Try.prog 41 #[.pointer (some ⟨r, 0, none⟩), .string key] w fun e w' => e = .returned (.tuple #[.bool (fdG key A).isNone, .int .i64 0]) ∧ FcTo w0 w F r d M (setG A key ()) (K + 1) w' := by
  refine (floAdd_any w _ F r d M A key h.ff h.bel.size hf (by have := h.few; omega)).mono ?_
  rintro e w' ⟨h1, M', h2, h3⟩
  have hl : (setG A key ()).length ≤ K + 1 := by rw [len_set]; have := h.few; split <;> omega
  rcases h3 with ⟨_, rfl⟩ | ⟨_, t, b, rfl⟩
  · exact ⟨h1, _, h.got h2 (h.lensStep.mono (Nat.le_succ _)) hl, (step_lens M).2.2.1, h2.2⟩
  · refine ⟨h1, _, h.got h2 (((h.lensStep).set (inv_step M h.ff.like.inv) h.stepN key _ t b).mono (Nat.le_succ _)) hl, ?_, h2.2⟩
    rw [set_seed (inv_step M h.ff.like.inv) key _ t b]; exact (step_lens M).2.2.1
theorem fc_del (h : Fc K w0 w F r d M A) (hk : key.size ≤ maxLen) :
    Calls Try.prog 64 #[.pointer (some ⟨r, 0, none⟩), .string key] w fun e w' => e = .returned (.bool (fdG key A).isSome) ∧ FcTo w0 w F r d M (delG A key) K w' := by
  refine (floDel_any w _ F r d M A key h.ff h.bel.size hk).mono ?_
  rintro e w' ⟨h1, M', h2, h3⟩
  have hl : (delG A key).length ≤ K := Nat.le_trans len_del h.few
  rcases h3 with ⟨_, rfl⟩ | ⟨_, t, rfl⟩
  · exact ⟨h1, _, h.got h2 h.lensStep hl, (step_lens M).2.2.1, h2.2⟩
  · refine ⟨h1, _, h.got h2 ((h.lensStep).del (inv_step M h.ff.like.inv) h.stepN key t) hl, ?_, h2.2⟩
    rw [del_seed (inv_step M h.ff.like.inv) key t]; exact (step_lens M).2.2.1
theorem fc_has (h : Fc K w0 w F r d M A) (hk : key.size ≤ maxLen) :
    Calls Try.prog 52 #[.pointer (some ⟨r, 0, none⟩), .string key] w fun e w' => e = .returned (.bool (fdG key A).isSome) ∧ FcTo w0 w F r d M A K w' := by
  refine (floHas_any w _ F r d M A key h.ff h.bel.size hk).mono ?_
  rintro e w' ⟨h1, h2⟩
  exact ⟨h1, _, h.got h2 h.lensStep h.few, (step_lens M).2.2.1, h2.2⟩
end
end Go.Proofs.Ytgomilodeaafdaa
namespace Go.Proofs.Ytgomilodeaafdaa
open Go.RowKit Go.Shelf Go.Sort
/-- a count above the number of keys: one call tells them all -/
theorem scan_whole {M : DM} (h : Inv M) (ho : M.old ≠ []) (count : Int) (hc : ((entries M).length : Int) < count) : ∃ l, scanK M 0 count = (0, l) ∧ l.Perm ((entries M).map E.key) := by
  have T := tabs h ho (max count 1).toNat
  have hp := seg_all h ho (max count 1).toNat
  unfold scanK
  rw [if_neg ho]
  obtain ⟨B, hB⟩ : ∃ B, scanT M (max count 1).toNat = B := ⟨_, rfl⟩
  have hcnt : B.cnt = (max count 1).toNat := by rw [← hB]; rfl
  rw [hB] at T hp ⊢
  have hJ : 0 < B.J := Nat.two_pow_pos _
  obtain ⟨j, h1, h2, h3, h4⟩ := B.nxt_seg T.le _ 0 rfl hJ []
  rw [Nat.zero_mul, tr_zero, List.nil_append] at h3
  rw [List.nil_append] at h4
  have hlen : (B.seg 0 j).length ≤ (B.seg 0 B.J).length := by rw [B.seg_append (Nat.zero_le j) h2, List.length_append]; omega
  have hall : (B.seg 0 B.J).length = (entries M).length := by rw [hp.length_eq, List.length_map]
  have hj : j = B.J := by
    by_cases hlt : j < B.J
    · have := h4 hlt; omega
    · omega
  subst hj
  rw [h3]
  refine ⟨_, ?_, hp⟩
  unfold TB.cur
  rw [if_pos rfl]
def kA : ByteArray := ⟨#[97]⟩
def kB : ByteArray := ⟨#[98]⟩
theorem kAB : ltS kA kB := by
  unfold ltS kA kB
  rw [Go.ByteArray.toList_eq, Go.ByteArray.toList_eq]
  decide
theorem wk_one : setG ([] : List Me) kB () = [(kB, ())] := by rw [setG_none rfl]; rfl
theorem wk_fd : fdG kA [(kB, ())] = none := by decide
theorem wk_two : setG [(kB, ())] kA () = [(kB, ()), (kA, ())] := by rw [setG_none wk_fd]; rfl
theorem wk_fd2 : fdG kA [(kB, ()), (kA, ())] = some 1 := by decide
theorem wk_perm : [kA, kB].Perm ([(kB, ()), (kA, ())].map fun x : Me => x.1) := List.Perm.swap _ _ _
theorem wk_rise : [kA, kB].Pairwise ltS := List.Pairwise.cons (fun x hx => by rw [List.mem_singleton.1 hx]; exact kAB) (List.pairwise_singleton _ _)
theorem wk_inter : interL [[kA, kB], [kA, kB]] = [kA, kB] := by decide
set_option maxRecDepth 100000 in
set_option maxHeartbeats 4000000 in
theorem wakes10_any (w : World) : Calls Try.prog 51 #[] w fun e w' => e = .returned (.bool true) ∧ Below w.heap.size w w' := by
  go_enter Try.func51, Try.ntmps51
  go_wp2_with fail
  refine (fc_new w w 0 (Below.refl _ _)).mono ?_
  rintro e w1 ⟨r, d, M0, F0, rfl, h0, -, -, -⟩
  have H0 := Lib.hid h0
  clear h0
  go_wp2_with fail
  refine (fc_add w w1 0 F0 r d M0 [] kB H0.out (by decide) (by decide)).mono ?_
  rintro e w2 ⟨rfl, M1, h1, -, -⟩
  rw [wk_one] at h1
  rw [show (fdG kB ([] : List Me)).isNone = true from rfl]
  have H1 := Lib.hid h1
  clear h1 H0
  go_wp2_with fail
  refine (fc_add w w2 1 _ r d M1 _ kA H1.out (by decide) (by decide)).mono ?_
  rintro e w3 ⟨rfl, M2, h2, -, -⟩
  rw [wk_two] at h2
  rw [wk_fd]
  obtain ⟨F2, hF2⟩ : ∃ F2, Grew (Grew F0 w1 w2) w2 w3 = F2 := ⟨_, rfl⟩
  rw [hF2] at h2
  obtain ⟨A2, hA2⟩ : ∃ A2 : List Me, [(kB, ()), (kA, ())] = A2 := ⟨_, rfl⟩
  rw [hA2] at h2
  have HA2 := Lib.hid hA2
  have H2 := Lib.hid h2
  have hl2 : A2.length = 2 := by rw [← hA2]; rfl
  have hne : entries M2 ≠ [] := by
    intro e
    have h1 := h2.ff.like.inv.count
    rw [e, h2.count, hl2] at h1
    simp at h1
  have hcnt : (entries M2).length = 2 := by rw [← h2.ff.like.inv.count, h2.count, hl2]
  obtain ⟨sl, hsl, hsp⟩ := scan_whole h2.ff.like.inv (old_ne h2.ff.like.inv hne) 100 (by rw [hcnt]; decide)
  have hsll : sl.length = 2 := by rw [hsp.length_eq, List.length_map, hcnt]
  have hscan := floScan_any w3 _ F2 r d M2 A2 0 100 h2.ff (by unfold InI; decide)
  rw [show (0 : UInt64).toNat = 0 from rfl, hsl] at hscan
  have HSC := Lib.hid hscan
  have HLL := Lib.hid hsll
  have HPM : Hid ([kA, kB].Perm (A2.map (·.1))) := by show List.Perm _ _; rw [← hA2]; exact wk_perm
  clear hF2 hA2 h2 hne hcnt hsl hsp hscan H1 hsll hl2
  go_wp2_with fail
  refine HSC.out.mono ?_
  rintro e w4 ⟨v4, rfl, hr4, hb4⟩
  dsimp only at hr4 ⊢
  have hsa := fr_bel hb4
  have H4 := Lib.hid (H2.out.quiet hsa)
  have hr4' : w4.ownsRow w3.heap.size 9 1 v4 sl.length (sl.map .string) := hr4
  obtain ⟨v4a, v4c, rfl⟩ := ow_sliceN hr4'
  rw [HLL.out]
  have hsm := floSample_any w4 _ F2 r d M2 A2 0 H4.out.ff [kA, kB] HPM.out wk_rise
  rw [sampM_at (k := 0) (x := kA) (by decide) rfl] at hsm
  have HSM : Hid (Calls Try.prog 65 #[.pointer (some ⟨r, 0, none⟩), .int .u64 (wd 0)] w4 fun e w' => e = .returned (.tuple #[.string ⟨#[97]⟩, .bool true]) ∧ Fr (fun _ => False) w4 w') := hsm
  clear hr4 hr4' hb4 hsa hsm H2 HSC
  go_wp2_with fail
  refine HSM.out.mono ?_
  rintro e w5 ⟨rfl, hf5⟩
  have H5 := Lib.hid (H4.out.quiet hf5)
  have hhas := fc_has w w5 _ F2 r d M2 A2 kA H5.out (by decide)
  rw [← HA2.out, wk_fd2, HA2.out] at hhas
  have HHAS := Lib.hid hhas
  clear hf5 hhas H4 HSM
  go_wp2_with fail
  refine HHAS.out.mono ?_
  rintro e w6 ⟨rfl, M3, h6, -, -⟩
  have H6 := Lib.hid h6
  have hlen := floLen_any w6 _ _ r d M3 A2 h6.ff
  rw [show A2.length = 2 by rw [← HA2.out]; rfl] at hlen
  have hcost := floCost_any w6 _ _ r d M3 A2 h6.ff
  rw [show costM A2 = 50 by rw [← HA2.out]; decide] at hcost
  have HLEN := Lib.hid hlen
  have HCOST := Lib.hid hcost
  clear h6 hlen hcost H5 HHAS
  go_wp2_with fail
  refine HLEN.out.mono ?_
  rintro e w' ⟨rfl, rfl⟩
  go_wp2_with fail
  refine HCOST.out.mono ?_
  rintro e w' ⟨rfl, rfl⟩
  have hmo : MemOf w6 (.pointer (some ⟨r, 0, none⟩)) [kA, kB] := .inr ⟨_, _, r, d, M3, A2, rfl, H6.out.ff, HPM.out, wk_rise⟩
  have HMO := Lib.hid hmo
  have HMM := Lib.hid (memOf_any w6 _ _ hmo)
  clear hmo HLEN HCOST
  go_wp2_with fail
  refine HMM.out.mono ?_
  rintro e w7 ⟨v7, rfl, hr7, hf7⟩
  obtain ⟨W8, hW8⟩ : ∃ W8, w7.alloc (.cells #[.string ⟨#[97]⟩, .string ⟨#[98]⟩] 9) = W8 := ⟨_, rfl⟩
  have hf8 : Fr (fun _ => False) w7 W8 := by rw [← hW8]; exact Fr.alloc _ _ _
  have hlit : RdC W8 1 (.slice (some ⟨w7.heap.size, 0, none⟩) 2 2) 2 ([kA, kB].map .string) := by
    rw [← hW8]; exact RdC.of_owns (World.ownsRow_lit (e := 9) w7 #[.string kA, .string kB] 2 (Nat.le_refl _) (by decide) rfl)
  have hsame := same10_any W8 v7 (.slice (some ⟨w7.heap.size, 0, none⟩) 2 2) [kA, kB] [kA, kB] (RdC.of_owns (ow_fr hr7 hf8 (fun _ _ h => h))) hlit
  rw [decide_eq_true rfl] at hsame
  have HSAME := Lib.hid hsame
  have H8 := Lib.hid ((H6.out.quiet hf7).quiet hf8)
  have HMO8 := Lib.hid ((HMO.out.quiet hf7).quiet hf8)
  clear hr7 hf7 hf8 hlit hsame H6 HMO HMM
  go_wp2_with fail
  try rw [hW8]
  refine HSAME.out.mono ?_
  rintro e w9 ⟨rfl, m9, rfl⟩
  obtain ⟨w9, hw9⟩ : ∃ w9, W8.drewN m9 = w9 := ⟨_, rfl⟩
  have hf9 : Fr (fun _ => False) W8 w9 := by rw [← hw9]; exact Fr.drewN _ _ _
  rw [hw9]
  have H9 := Lib.hid (H8.out.quiet hf9)
  obtain ⟨WA, hWA⟩ : ∃ WA, w9.alloc (.cells #[.pointer (some ⟨r, 0, none⟩), .pointer (some ⟨r, 0, none⟩)] 67) = WA := ⟨_, rfl⟩
  have hfA : Fr (fun _ => False) w9 WA := by rw [← hWA]; exact Fr.alloc _ _ _
  have hrow : FlRow WA (.slice (some ⟨w9.heap.size, 0, none⟩) 2 2) [.pointer (some ⟨r, 0, none⟩), .pointer (some ⟨r, 0, none⟩)] [[kA, kB], [kA, kB]] := by
    refine ⟨by rw [← hWA]; exact RdC.of_owns (World.ownsRow_lit (e := 67) w9 #[.pointer (some ⟨r, 0, none⟩), .pointer (some ⟨r, 0, none⟩)] 2 (Nat.le_refl _) (by decide) rfl), rfl, fun i p L h1 h2 => ?_⟩
    have hm : MemOf WA (.pointer (some ⟨r, 0, none⟩)) [kA, kB] := (HMO8.out.quiet hf9).quiet hfA
    match i, h1, h2 with
    | 0, h1, h2 => cases h1; cases h2; exact hm
    | 1, h1, h2 => cases h1; cases h2; exact hm
    | n + 2, h1, _ => simp at h1
  have hint := inter_any WA _ _ _ hrow (by decide)
  rw [wk_inter] at hint
  have HINT := Lib.hid hint
  have HA := Lib.hid (H9.out.quiet hfA)
  clear hW8 hw9 hf9 hfA hrow hint H8 HMO8 HSAME
  go_wp2_with fail
  try rw [hWA]
  refine HINT.out.mono ?_
  rintro e wB ⟨vB, rfl, hrB, hfB⟩
  obtain ⟨WC, hWC⟩ : ∃ WC, wB.alloc (.cells #[.string ⟨#[97]⟩, .string ⟨#[98]⟩] 9) = WC := ⟨_, rfl⟩
  have hfC : Fr (fun _ => False) wB WC := by rw [← hWC]; exact Fr.alloc _ _ _
  have hlit : RdC WC 1 (.slice (some ⟨wB.heap.size, 0, none⟩) 2 2) 2 ([kA, kB].map .string) := by
    rw [← hWC]; exact RdC.of_owns (World.ownsRow_lit (e := 9) wB #[.string kA, .string kB] 2 (Nat.le_refl _) (by decide) rfl)
  have hsame := same10_any WC vB (.slice (some ⟨wB.heap.size, 0, none⟩) 2 2) [kA, kB] [kA, kB] (RdC.of_owns (ow_fr hrB hfC (fun _ _ h => h))) hlit
  rw [decide_eq_true rfl] at hsame
  have HSAME := Lib.hid hsame
  have HC := Lib.hid ((HA.out.quiet hfB).quiet hfC)
  clear hWA hrB hfB hfC hlit hsame HINT
  go_wp2_with fail
  try rw [hWC]
  refine HSAME.out.mono ?_
  rintro e wD ⟨rfl, mD, rfl⟩
  go_wp2_with fail
  go_ret
  exact ⟨rfl, (HC.out.quiet (Fr.drewN (fun _ => False) WC mD)).bel⟩
end Go.Proofs.Ytgomilodeaafdaa
namespace Go.Proofs.Ytgomilodeaafdaa
open Go.ChangeShapes Go.WideShapes Go.ChangeAt Go.RowKit Go.Deep

structure So10 where
  who : Int
  do_ : Int
  member : ByteArray
  big : Int
  n : UInt64
  count : Int
abbrev So10B := { o : So10 // o.member.size ≤ maxLen ∧ InI o.big ∧ InI o.count }
def so10 (o : So10B) : List Value := [.int .i64 o.1.who, .int .i64 o.1.do_, .string o.1.member, .int .i64 o.1.big, .int .u64 (wd o.1.n), .int .i64 o.1.count]
theorem so10_len (o : So10B) : (so10 o).length = 6 := rfl
section
variable {H : Type} {enc : TypeId × Value → H} {w : World} {base : Nat} {held : Bool}
theorem so10_read (n : Nat) (l : List Value) (y : DataW H × List MemPlace) (h : DataW.trod enc Try.prog w base (fun _ => true) held n 74 l = some y) : ∃ x : So10B, l = so10 x := by
  obtain ⟨hl, hf⟩ := struct_read Try.underlying74 (by kernel_rfl) (by kernel_rfl) h
  match l, hl with
  | [c0, c1, c2, c3, c4, c5], _ =>
    obtain ⟨v0, n0, y0, e0, t0⟩ := hf 0 _ rfl
    obtain ⟨v1, n1, y1, e1, t1⟩ := hf 1 _ rfl
    obtain ⟨v2, n2, y2, e2, t2⟩ := hf 2 _ rfl
    obtain ⟨v3, n3, y3, e3, t3⟩ := hf 3 _ rfl
    obtain ⟨v4, n4, y4, e4, t4⟩ := hf 4 _ rfl
    obtain ⟨v5, n5, y5, e5, t5⟩ := hf 5 _ rfl
    cases e0; cases e1; cases e2; cases e3; cases e4; cases e5
    obtain ⟨x0, g0, _, _⟩ := DataW.trod_int Try.underlying3 t0
    obtain ⟨x1, g1, _, _⟩ := DataW.trod_int Try.underlying3 t1
    obtain ⟨x2, g2, _, hs2⟩ := DataW.trod_string Try.underlying9 t2
    obtain ⟨x3, g3, _, hs3⟩ := DataW.trod_int Try.underlying3 t3
    obtain ⟨x4, g4, _, hw⟩ := DataW.trod_int Try.underlying22 t4
    obtain ⟨x5, g5, _, hw5⟩ := DataW.trod_int Try.underlying3 t5
    obtain ⟨u, rfl⟩ := word_of hw
    cases g0; cases g1; cases g2; cases g3; cases g4; cases g5
    exact ⟨⟨⟨x0, x1, x2, x3, u, x5⟩, hs2, i64_of hs3, i64_of hw5⟩, rfl⟩
end
/-- the cells of step k of a script -/
theorem so10_at {w : World} {a : Option Addr} {n cap : Nat} {l : List So10B} (h : RdC w 6 (.slice a n cap) n (l.flatMap so10)) (k : Nat) (hk : k < l.length) :
    ∃ g off, a = some ⟨g, off, none⟩ ∧ w.cell? ⟨g, off + k * 6, none⟩ = some (.int .i64 l[k].1.who) ∧ w.cell? ⟨g, off + k * 6 + 1, none⟩ = some (.int .i64 l[k].1.do_) ∧ w.cell? ⟨g, off + k * 6 + 2, none⟩ = some (.string l[k].1.member) ∧
      w.cell? ⟨g, off + k * 6 + 3, none⟩ = some (.int .i64 l[k].1.big) ∧ w.cell? ⟨g, off + k * 6 + 4, none⟩ = some (.int .u64 (wd l[k].1.n)) ∧ w.cell? ⟨g, off + k * 6 + 5, none⟩ = some (.int .i64 l[k].1.count) := by
  have hf := fun j hj => flatAt so10 6 so10_len l k j hk hj
  obtain ⟨g, off, rfl, hc⟩ := h.at (by rw [flat_size so10 6 so10_len]; omega)
  refine ⟨g, off, rfl, ?_, ?_, ?_, ?_, ?_, ?_⟩
  · exact hc (k * 6 + 0) _ (by rw [hf 0 (by decide)]; rfl)
  · rw [Nat.add_assoc]; exact hc (k * 6 + 1) _ (by rw [hf 1 (by decide)]; rfl)
  · rw [Nat.add_assoc]; exact hc (k * 6 + 2) _ (by rw [hf 2 (by decide)]; rfl)
  · rw [Nat.add_assoc]; exact hc (k * 6 + 3) _ (by rw [hf 3 (by decide)]; rfl)
  · rw [Nat.add_assoc]; exact hc (k * 6 + 4) _ (by rw [hf 4 (by decide)]; rfl)
  · rw [Nat.add_assoc]; exact hc (k * 6 + 5) _ (by rw [hf 5 (by decide)]; rfl)
end Go.Proofs.Ytgomilodeaafdaa
namespace Go.Proofs.Ytgomilodeaafdaa
open Go.RowKit Du
theorem short_any (w : World) (s : ByteArray) (h : s.size ≤ maxLen) : Calls Try.prog 63 #[.string s] w fun e w' => e = .returned (.bool (decide (s.size ≤ 1048576))) ∧ w = w' := by
  unfold maxLen at h
  obtain ⟨b, hb⟩ : ∃ b, decide (s.size ≤ 1048576) = b := ⟨_, rfl⟩
  have g1 : decide ((s.size : Int) ≤ 1048576) = b := by rw [← hb]; exact decide_eq_decide.2 (by omega)
  rw [hb]
  clear hb
  go_enter Try.func63, Try.ntmps63
  go_wp2
  go_ret
  exact ⟨rfl, rfl⟩
set_option maxRecDepth 100000 in
theorem has10_any (w : World) (v : Value) (l : List ByteArray) (s : ByteArray) (h : RdC w 1 v l.length (l.map .string)) :
    Calls Try.prog 53 #[v, .string s] w fun e w' => e = .returned (.bool (inL s l)) ∧ w = w' := by
  have hm := h.len
  unfold maxLen at hm
  have H1 := Lib.hid h
  obtain ⟨-, a1, c1, rfl, -⟩ := h
  go_enter Try.func53, Try.ntmps53
  go_wp2
  go_loopw [9] (fun i wr => ∃ k : Nat, i = .int .i64 k ∧ k ≤ l.length ∧ Hid (w = wr) ∧ Hid (s ∉ l.take k)) (fun i _ => l.length - (intOf i).toNat)
  case atStart => exact ⟨0, rfl, by omega, rfl, (show s ∉ [] from List.not_mem_nil)⟩
  case round =>
    obtain ⟨k, rfl, hk, HW, HE⟩ := hrel
    by_cases hlt : k < l.length
    · obtain ⟨g1, o1, rfl, c1⟩ := texts_at H1.out k hlt
      rw [HW.out] at c1
      obtain ⟨x, hx⟩ : ∃ x, l[k] = x := ⟨_, rfl⟩
      rw [hx] at c1
      have HX := Lib.hid hx
      clear hx
      by_cases hxy : x = s
      · have hq : (x.toList == s.toList) = true := by rw [str_beq]; simpa using hxy
        have hin : inL s l = true := inL_iff.2 (by rw [← hxy, ← HX.out]; exact List.getElem_mem hlt)
        have HIN := Lib.hid hin
        clear hxy hin
        go_wp2
        go_ret
        exact ⟨by rw [HIN.out]; rfl, HW.out⟩
      · have hq : (x.toList == s.toList) = false := by rw [str_beq]; simpa using hxy
        have hts : Hid (s ∉ l.take (k + 1)) := by
          show _ ∉ _
          rw [List.take_succ_eq_append_getElem hlt, HX.out, List.mem_append, List.mem_singleton]
          exact fun e => e.elim HE.out (fun e => hxy e.symm)
        clear hxy
        go_wp2
        go_roundw
        case rel => exact ⟨k + 1, by go_num, by omega, HW, hts⟩
        case measure => simp [intOf]; omega
    · obtain rfl : k = l.length := by omega
      have hin : inL s l = false := inL_no (by have := HE.out; rwa [List.take_length] at this)
      have HIN := Lib.hid hin
      clear hin
      go_wp2
      go_ret
      exact ⟨by rw [HIN.out]; rfl, HW.out⟩
theorem inL_fd {A : List Me} {key : ByteArray} : inL key (A.map (·.1)) = (fdG key A).isSome := by
  cases ha : fdG key A with
  | some i =>
    obtain ⟨x, hx⟩ := fdG_some ha
    exact inL_iff.2 (List.mem_map.2 ⟨_, List.mem_of_getElem? hx, rfl⟩)
  | none =>
    refine inL_no fun h => ?_
    obtain ⟨y, hy, e⟩ := List.mem_map.1 h
    exact fdG_none ha y hy e
theorem delG_filter {A : List Me} {key : ByteArray} (hnd : (A.map (·.1)).Nodup) : (delG A key).map (·.1) = (A.map (·.1)).filter fun x => !decide (x = key) := by
  unfold delG
  cases ha : fdG key A with
  | none =>
    symm
    refine List.filter_eq_self.2 fun x hx => ?_
    obtain ⟨y, hy, rfl⟩ := List.mem_map.1 hx
    simpa using fdG_none ha y hy
  | some i =>
    obtain ⟨x, hx⟩ := fdG_some ha
    obtain ⟨hi, hxe⟩ := List.getElem?_eq_some_iff.1 hx
    show (A.eraseIdx i).map (·.1) = _
    have hA : A = A.take i ++ A[i] :: A.drop (i + 1) := by rw [List.getElem_cons_drop]; exact (List.take_append_drop i A).symm
    have hk : (A[i]).1 = key := by rw [hxe]
    have hnd2 := hnd
    rw [hA, List.map_append, List.map_cons, hk] at hnd2
    obtain ⟨n1, n2, n3⟩ := List.nodup_append.1 hnd2
    obtain ⟨n4, n5⟩ := List.nodup_cons.1 n2
    rw [List.eraseIdx_eq_take_drop_succ, List.map_append]
    conv => rhs; rw [hA, List.map_append, List.map_cons, hk, List.filter_append, List.filter_cons]
    simp only [decide_true, Bool.not_true, Bool.false_eq_true, if_false]
    rw [List.filter_eq_self.2 (fun y hy => by
      have : y ≠ key := fun e => n3 y hy key (List.mem_cons_self ..) e
      simpa using this), List.filter_eq_self.2 (fun y hy => by
      have : y ≠ key := fun e => n4 (e ▸ hy)
      simpa using this)]
end Go.Proofs.Ytgomilodeaafdaa
