/- Records. No condition. -/
import Derived.Test.YtgomilodeaafdaaBb
import Derived.Test.YtgomilodeaafdaaBs
import Derived.Test.YtgomilodeaafdaaBa
import Derived.Deep.Cut
import Derived.Deep.CutBlock
import Derived.Deep.RegionWith
import Derived.StillTailTactics
import Derived.Test.YtgomilodeaafdaaShelfP
import Derived.Laws.Cover1
import Derived.Sort.KeysCollected
import Derived.Sort.OwnSorted
import Derived.Test.YtgomilodeaafdaaBt
import Derived.Laws.MakeOwn
import Derived.Laws.NewBlocks
import Derived.Deep.Fields
namespace Go.Proofs.Ytgomilodeaafdaa
abbrev Pr := ByteArray × ByteArray
def prC (x : Pr) : Nat := 32 + x.1.size + x.2.size
def costP (A : List Pr) : Nat := (A.map prC).sum
theorem costP_nil : costP [] = 0 := rfl
theorem costP_cons (x : Pr) (A : List Pr) : costP (x :: A) = prC x + costP A := by unfold costP; rw [List.map_cons, List.sum_cons]
theorem costP_perm {A A' : List Pr} (h : A.Perm A') : costP A = costP A' := by
  induction h with
  | nil => rfl
  | cons x _ ih => rw [costP_cons, costP_cons, ih]
  | swap x y l => rw [costP_cons, costP_cons, costP_cons, costP_cons]; omega
  | trans _ _ ih1 ih2 => exact ih1.trans ih2
theorem costP_at {A : List Pr} {i : Nat} {x : Pr} (h : A[i]? = some x) : costP A = prC x + costP (A.eraseIdx i) := by rw [costP_perm (permG_erase A i x h), costP_cons]
theorem costP_set {A : List Pr} {i : Nat} (y : Pr) (h : i < A.length) : costP (A.set i y) = prC y + costP (A.eraseIdx i) := by rw [costP_perm (permG_set A i y h), costP_cons]
theorem costP_snoc (A : List Pr) (x : Pr) : costP (A ++ [x]) = costP A + prC x := by
  rw [costP_perm (List.perm_append_singleton x A), costP_cons, Nat.add_comm]
/-- texts that may be held -/
def Fits (x : Pr) : Prop := x.1.size ≤ 1048576 ∧ x.2.size ≤ 1048576
theorem costP_le {A : List Pr} (h : ∀ x ∈ A, Fits x) : costP A ≤ A.length * 2097184 := by
  induction A with
  | nil => exact Nat.le_refl _
  | cons a A ih =>
    have h1 := ih (fun x hx => h x (List.mem_cons_of_mem _ hx))
    have h2 := h a (List.mem_cons_self ..)
    rw [costP_cons, List.length_cons, Nat.add_mul]
    unfold prC
    have h3 := h2.1
    have h4 := h2.2
    omega
theorem fits_set {A : List Pr} {key v : ByteArray} (h : ∀ x ∈ A, Fits x) (hk : Fits (key, v)) : ∀ x ∈ setG A key v, Fits x := by
  intro x hx
  unfold setG at hx
  cases ha : fdG key A with
  | some i =>
    rw [ha] at hx
    rcases List.mem_or_eq_of_mem_set hx with hx | rfl
    · exact h x hx
    · exact hk
  | none =>
    rw [ha] at hx
    rcases List.mem_append.1 hx with hx | hx
    · exact h x hx
    · rw [List.mem_singleton.1 hx]; exact hk
theorem fits_del {A : List Pr} {key : ByteArray} (h : ∀ x ∈ A, Fits x) : ∀ x ∈ delG A key, Fits x := by
  intro x hx
  unfold delG at hx
  cases ha : fdG key A with
  | some i => rw [ha] at hx; exact h x (List.mem_of_mem_eraseIdx hx)
  | none => rw [ha] at hx; exact h x hx
theorem len_set {α : Type} {A : List (ByteArray × α)} {key : ByteArray} {v : α} : (setG A key v).length = if (fdG key A).isSome then A.length else A.length + 1 := by
  unfold setG
  cases ha : fdG key A with
  | some i => simp
  | none => simp
theorem len_del {α : Type} {A : List (ByteArray × α)} {key : ByteArray} : (delG A key).length ≤ A.length := by
  unfold delG
  cases ha : fdG key A with
  | some i => exact List.length_eraseIdx_le ..
  | none => exact Nat.le_refl _
/-- what lies under a field -/
def getP (A : List Pr) (key : ByteArray) : ByteArray := match fdG key A with
  | some i => match A[i]? with
    | some y => y.2
    | none => ⟨#[]⟩
  | none => ⟨#[]⟩
end Go.Proofs.Ytgomilodeaafdaa
namespace Go.Proofs.Ytgomilodeaafdaa
/-- the place of a field; -1: none -/
def fdI (l : List Pr) (key : ByteArray) : Int := match fdG key l with
  | some i => i
  | none => -1
theorem fdI_some {l : List Pr} {key : ByteArray} {i : Nat} (h : fdG key l = some i) : fdI l key = i := by unfold fdI; rw [h]
theorem fdI_none {l : List Pr} {key : ByteArray} (h : fdG key l = none) : fdI l key = -1 := by unfold fdI; rw [h]
/-- a list but for one place -/
def dropI {α : Type} (l : List α) (at_ : Int) : List α := if at_ < 0 then l else l.eraseIdx at_.toNat
theorem dropI_snoc {α : Type} (l : List α) (at_ : Int) (k : Nat) (h : k < l.length) : dropI (l.take (k + 1)) at_ = dropI (l.take k) at_ ++ if (k : Int) = at_ then [] else [l[k]] := by
  have hl : (l.take k).length = k := by rw [List.length_take]; omega
  rw [List.take_succ_eq_append_getElem h]
  unfold dropI
  by_cases h0 : at_ < 0
  · rw [if_pos h0, if_pos h0, if_neg (by omega)]
  · rw [if_neg h0, if_neg h0]
    obtain ⟨i, rfl⟩ : ∃ i : Nat, at_ = i := ⟨at_.toNat, by omega⟩
    rw [Int.toNat_natCast]
    by_cases h1 : i < k
    · rw [List.eraseIdx_append_of_lt_length (by omega), if_neg (by omega)]
    · rw [List.eraseIdx_append_of_length_le (by omega), hl]
      by_cases h2 : k = i
      · subst h2
        rw [if_pos rfl, Nat.sub_self, List.eraseIdx_of_length_le (Nat.le_of_eq hl)]
        rfl
      · rw [if_neg (by omega), List.eraseIdx_of_length_le (l := [l[k]]) (by simp; omega), List.eraseIdx_of_length_le (l := l.take k) (by omega)]
theorem dropI_len {α : Type} (l : List α) (at_ : Int) : (dropI l at_).length ≤ l.length := by
  unfold dropI
  split
  · exact Nat.le_refl _
  · exact List.length_eraseIdx_le ..
theorem dropI_fd {l : List Pr} {key : ByteArray} : dropI l (fdI l key) = delG l key := by
  unfold dropI fdI delG
  cases fdG key l with
  | none => simp
  | some i => simp; intro h; omega
theorem fdG_append {α : Type} {l m : List (ByteArray × α)} {key : ByteArray} (h : fdG key l = none) {i : Nat} (h2 : fdG key m = some i) : fdG key (l ++ m) = some (l.length + i) := by
  obtain ⟨x, hx⟩ := fdG_some h2
  refine fdG_of (x := x) (by rw [List.getElem?_append_right (by omega), Nat.add_sub_cancel_left]; exact hx) fun j e hj he => ?_
  by_cases hjl : j < l.length
  · rw [List.getElem?_append_left hjl] at he
    exact fdG_none h e (List.mem_of_getElem? he)
  · rw [List.getElem?_append_right (by omega)] at he
    exact fdG_first h2 _ e (by omega) he
end Go.Proofs.Ytgomilodeaafdaa
namespace Go.Proofs.Ytgomilodeaafdaa
open Go.RowKit Ds
/-- a record whose blocks are of F -/
structure RecF (w : World) (B : Nat) (F : Nat → Prop) (r d : Nat) (M : DM) (A : List Pr) : Prop where
  blk : w.heap[r]? = some (.cells #[.int .u64 (wd M.seed), .pointer (some ⟨d, 0, none⟩), .int .i64 (costP A : Nat)] 138 (0, 0))
  dat : DAt w d M
  like : LikeG vl M A
  fr : F r
  fd : ∀ k, Bs (dictL d M) k → F k
  rd : ¬ Bs (dictL d M) r
  lt : ∀ k, F k → B ≤ k ∧ k < w.heap.size
  len : A.length ≤ 1048576
  fit : ∀ x ∈ A, Fits x
section
variable {w w' : World} {B B' r d : Nat} {F T : Nat → Prop} {M M' : DM} {A A' : List Pr}
theorem RecF.other (h : RecF w B F r d M A) (hf : Fr T w w') (hd : ∀ k, F k → ¬ T k) : RecF w' B F r d M A :=
  ⟨(hf.block r (h.lt r h.fr).2 (hd r h.fr)).trans h.blk, h.dat.fr hf (fun k hk => hd k (h.fd k hk)), h.like, h.fr, h.fd, h.rd, fun k hk => ⟨(h.lt k hk).1, Nat.lt_of_lt_of_le (h.lt k hk).2 hf.size⟩, h.len, h.fit⟩
theorem RecF.quiet (h : RecF w B F r d M A) (hf : Fr (fun _ => False) w w') : RecF w' B F r d M A := h.other hf (fun _ _ h => h)
theorem RecF.base (h : RecF w B F r d M A) (hb : B' ≤ B) : RecF w B' F r d M A :=
  ⟨h.blk, h.dat, h.like, h.fr, h.fd, h.rd, fun k hk => ⟨Nat.le_trans hb (h.lt k hk).1, (h.lt k hk).2⟩, h.len, h.fit⟩
theorem RecF.perm (h : RecF w B F r d M A) (hp : A.Perm A') : RecF w B F r d M A' :=
  ⟨by rw [← costP_perm hp]; exact h.blk, h.dat, h.like.of_perm hp, h.fr, h.fd, h.rd, h.lt, by rw [← hp.length_eq]; exact h.len, fun x hx => h.fit x (hp.mem_iff.2 hx)⟩
/-- the dict is turned -/
theorem RecF.turn (h : RecF w B F r d M A) (hB : B ≤ w.heap.size) (ht : Turn w d M w' M') (hl : LikeG vl M' A) (hs : M'.seed = M.seed) : RecF w' B (Grew F w w') r d M' A ∧ Fr F w w' := by
  have hfr : Fr F w w' := ht.fr.mono (fun i hi _ => h.fd i hi)
  refine ⟨⟨?_, ht.at_, hl, .inl h.fr, fun k hk => ?_, fun hb => ?_, fun k hk => ?_, h.len, h.fit⟩, hfr⟩
  · rw [hs]; exact (ht.fr.block r (h.lt r h.fr).2 h.rd).trans h.blk
  · exact (ht.bs k hk).elim (fun h1 => .inl (h.fd k h1)) (fun h1 => .inr ⟨h1, ht.at_.rep.lt hk⟩)
  · exact (ht.bs r hb).elim h.rd (fun h1 => absurd (h.lt r h.fr).2 (by omega))
  · rcases hk with hk | hk
    · exact ⟨(h.lt k hk).1, Nat.lt_of_lt_of_le (h.lt k hk).2 hfr.size⟩
    · exact ⟨Nat.le_trans hB hk.1, hk.2⟩
/-- its cost is set -/
theorem RecF.cost0 (h : RecF w B F r d M A) : w.cell? ⟨r, 2, none⟩ = some (.int .i64 (costP A : Nat)) := cell_of_blk h.blk 2
theorem RecF.dict0 (h : RecF w B F r d M A) : w.cell? ⟨r, 1, none⟩ = some (.pointer (some ⟨d, 0, none⟩)) := cell_of_blk h.blk 1
theorem RecF.seed0 (h : RecF w B F r d M A) : w.cell? ⟨r, 0, none⟩ = some (.int .u64 (wd M.seed)) := cell_of_blk h.blk 0
theorem RecF.free (h : RecF w B F r d M A) (i : Nat) : w.frozen? ⟨r, i, none⟩ = false := free_of_blk h.blk i
end
/-- what a call that turns a record leaves -/
def RecGot (w : World) (B : Nat) (F : Nat → Prop) (r d : Nat) (M : DM) (A : List Pr) (w' : World) : Prop :=
  RecF w' B (Grew F w w') r d M A ∧ Fr F w w'
theorem recNew_any (w : World) (seed : UInt64) : Calls Try.prog 22 #[.int .u64 (wd seed)] w fun e w' => ∃ r d, e = .returned (.pointer (some ⟨r, 0, none⟩)) ∧ RecF w' w.heap.size (fun k => w.heap.size ≤ k ∧ k < w'.heap.size) r d ⟨seed, 0, [], 0, [], 0, 0⟩ [] ∧ Below w.heap.size w w' := by
  have HN := fun w => Lib.hid (new_G w seed)
  go_enter Try.func22, Try.ntmps22
  go_wp2_with (refine (HN _).out.mono ?_; rintro e w1 ⟨rfl, D1, B1, rfl⟩)
  go_ret
  refine ⟨w.heap.size + 1, w.heap.size, rfl, ⟨?_, D1.fr (Fr.alloc (fun _ => False) _ _) (fun _ _ h => h), LikeG.new seed, ⟨by omega, by simp⟩, fun k hk => ?_, fun hb => ?_, fun k hk => hk, by decide, fun x hx => by cases hx⟩, ?_⟩
  · have h := alloc_new (w.alloc (fieldsO 194 ⟨seed, 0, [], 0, [], 0, 0⟩)) (.cells #[.int .u64 (wd seed), .pointer (some ⟨w.heap.size, 0, none⟩), .int .i64 0] 138)
    rw [World.size_alloc] at h
    exact h
  · have := B1 k hk
    subst this
    exact ⟨Nat.le_refl _, by simp; omega⟩
  · have := B1 _ hb
    omega
  · exact ((Below.refl _ _).alloc (Nat.le_refl _) _).alloc (by simp) _
theorem recLen_any (w : World) (B : Nat) (F : Nat → Prop) (r d : Nat) (M : DM) (A : List Pr) (h : RecF w B F r d M A) : Calls Try.prog 26 #[.pointer (some ⟨r, 0, none⟩)] w fun e w' => e = .returned (.int .i64 A.length) ∧ w = w' := by
  have HL := Lib.hid (len_G w d M A A.length h.dat h.like (by have := h.len; omega) rfl)
  have c1 := h.dict0
  clear h
  go_enter Try.func26, Try.ntmps26
  go_wp2_with (refine HL.out.mono ?_; rintro e w1 ⟨rfl, rfl⟩)
  go_ret
  exact ⟨rfl, rfl⟩
theorem recGet_any (w : World) (B : Nat) (F : Nat → Prop) (r d : Nat) (M : DM) (A : List Pr) (key : ByteArray) (h : RecF w B F r d M A) (hB : B ≤ w.heap.size) (hs : key.size ≤ maxLen) :
    Calls Try.prog 31 #[.pointer (some ⟨r, 0, none⟩), .string key] w fun e w' => e = .returned (.tuple #[valG A key, .bool (fdG key A).isSome]) ∧ RecGot w B F r d (stepM M) A w' := by
  have HL := Lib.hid (get_G w d M A key hs h.dat h.like)
  have c1 := h.dict0
  have H := Lib.hid h
  clear h
  go_enter Try.func31, Try.ntmps31
  go_wp2_with (refine HL.out.mono ?_; rintro e w1 ⟨rfl, T1, L1⟩)
  go_ret2
  exact ⟨rfl, H.out.turn hB T1 L1 (step_lens M).2.2.1⟩
theorem RecF.wide {w : World} {B r d : Nat} {F F' : Nat → Prop} {M : DM} {A : List Pr} (h : RecF w B F r d M A) (hF : ∀ k, F k → F' k) (hl : ∀ k, F' k → B ≤ k ∧ k < w.heap.size) : RecF w B F' r d M A :=
  ⟨h.blk, h.dat, h.like, hF r h.fr, fun k hk => hF k (h.fd k hk), h.rd, hl, h.len, h.fit⟩
theorem RecGot.trans {w w1 w2 : World} {B r d : Nat} {F : Nat → Prop} {M M' : DM} {A A' : List Pr} (h : RecGot w B F r d M A w1) (k : RecGot w1 B (Grew F w w1) r d M' A' w2) (hB : B ≤ w.heap.size) (hF : ∀ k, F k → B ≤ k ∧ k < w.heap.size) : RecGot w B F r d M' A' w2 := by
  have hs := h.2.size
  have hs2 := k.2.size
  refine ⟨k.1.wide (fun i hi => ?_) (fun i hi => ?_), h.2.wide k.2 (fun i hi => hi.elim .inl (fun h => .inr h.1))⟩
  · rcases hi with (hi | hi) | hi
    · exact .inl hi
    · exact .inr ⟨hi.1, by omega⟩
    · exact .inr ⟨by omega, hi.2⟩
  · rcases hi with hi | hi
    · have := hF i hi; exact ⟨this.1, by omega⟩
    · exact ⟨by omega, hi.2⟩
theorem RecF.turnC {w w3 w' : World} {B r d : Nat} {F : Nat → Prop} {M M' : DM} {A A' : List Pr} (h : RecF w B F r d M A) (hB : B ≤ w.heap.size)
    (hw : w3.heap[r]? = some (.cells #[.int .u64 (wd M.seed), .pointer (some ⟨d, 0, none⟩), .int .i64 (costP A' : Nat)] 138 (0, 0))) (hf3 : Fr (fun k => k = r) w w3) (ht : Turn w3 d M w' M') (hl : LikeG vl M' A') (hs : M'.seed = M.seed)
    (hlen : A'.length ≤ 1048576) (hfit : ∀ x ∈ A', Fits x) : RecGot w B F r d M' A' w' := by
  have hsz := hf3.size
  have hfr : Fr F w w' := (hf3.mono (T := F) (fun i hi _ => by rw [hi]; exact h.fr)).wide ht.fr (fun i hi => .inl (h.fd i hi))
  refine ⟨⟨?_, ht.at_, hl, .inl h.fr, fun k hk => ?_, fun hb => ?_, fun k hk => ?_, hlen, hfit⟩, hfr⟩
  · rw [hs]; exact (ht.fr.block r (by have := (h.lt r h.fr).2; omega) h.rd).trans hw
  · exact (ht.bs k hk).elim (fun h1 => .inl (h.fd k h1)) (fun h1 => .inr ⟨by omega, ht.at_.rep.lt hk⟩)
  · exact (ht.bs r hb).elim h.rd (fun h1 => absurd (h.lt r h.fr).2 (by omega))
  · rcases hk with hk | hk
    · exact ⟨(h.lt k hk).1, Nat.lt_of_lt_of_le (h.lt k hk).2 hfr.size⟩
    · exact ⟨Nat.le_trans hB hk.1, hk.2⟩
theorem maxN {P : Program} (a b : Nat) (w : World) (ts : Array TypeId) (t : TypeId) : (Builtin.max_ ts t #[.int .i64 a, .int .i64 b]).run P w = .ok (.int .i64 ((max a b : Nat) : Int)) w := by
  have e : (if a < b then (b : Int) else a) = ((max a b : Nat) : Int) := by
    split <;> omega
  simp [Builtin.max_, Builtin.max2, e]
theorem costs_any (w : World) (f s : ByteArray) (h : Fits (f, s)) : Calls Try.prog 97 #[.string f, .string s] w fun e w' => e = .returned (.int .i64 (prC (f, s) : Nat)) ∧ w = w' := by
  obtain ⟨h1, h2⟩ := h
  dsimp only at h1 h2
  have e1 : IntKind.i64.wrap (32 + (f.size : Int)) = 32 + (f.size : Int) := IntWalk.i64_in _ (by omega)
  have e2 : IntKind.i64.wrap (32 + (f.size : Int) + (s.size : Int)) = ((prC (f, s) : Nat) : Int) := by
    rw [IntWalk.i64_in _ (by omega)]
    unfold prC
    simp
  obtain ⟨c, hc⟩ : ∃ c : Int, ((prC (f, s) : Nat) : Int) = c := ⟨_, rfl⟩
  have e3 : IntKind.i64.wrap c = c := by rw [← hc]; exact IntWalk.i64_in _ (by unfold prC; dsimp only; omega)
  rw [hc] at e2 ⊢
  clear hc
  go_enter Try.func97, Try.ntmps97
  go_wp2
  go_ret
  exact ⟨rfl, rfl⟩
theorem recSet_long (w : World) (r : Nat) (key s : ByteArray) (hk : key.size ≤ maxLen) (hs : s.size ≤ maxLen) (h : ¬ Fits (key, s)) :
    Calls Try.prog 24 #[.pointer (some ⟨r, 0, none⟩), .string key, .string s] w fun e w' => e = .returned (.tuple #[.bool false, .int .i64 2]) ∧ w = w' := by
  have hm := @maxN Try.prog key.size s.size
  have hg : 1048576 < max key.size s.size := by
    unfold Fits at h
    dsimp only at h
    omega
  obtain ⟨m, hmm⟩ : ∃ m, max key.size s.size = m := ⟨_, rfl⟩
  rw [hmm] at hm hg
  have g1 : decide (1048576 < (m : Int)) = true := by rw [decide_eq_true_eq]; omega
  clear hmm
  go_enter Try.func24, Try.ntmps24
  go_wp2
  go_ret2
  exact ⟨rfl, rfl⟩
end Go.Proofs.Ytgomilodeaafdaa
namespace Go.Proofs.Ytgomilodeaafdaa
open Go.RowKit Ds
theorem valG_some {A : List Pr} {key was : ByteArray} {i : Nat} (ha : fdG key A = some i) (hw : A[i]? = some (key, was)) : valG A key = .string was := by
  unfold valG
  rw [ha]
  simp only [hw]
theorem valG_none {A : List Pr} {key : ByteArray} (ha : fdG key A = none) : valG A key = .string ⟨#[]⟩ := by
  unfold valG
  rw [ha]
  rfl
theorem setG_some {α : Type} {A : List (ByteArray × α)} {key : ByteArray} {x : α} {i : Nat} (ha : fdG key A = some i) : setG A key x = A.set i (key, x) := by unfold setG; rw [ha]
theorem setG_none {α : Type} {A : List (ByteArray × α)} {key : ByteArray} {x : α} (ha : fdG key A = none) : setG A key x = A ++ [(key, x)] := by unfold setG; rw [ha]
theorem delG_some {α : Type} {A : List (ByteArray × α)} {key : ByteArray} {i : Nat} (ha : fdG key A = some i) : delG A key = A.eraseIdx i := by unfold delG; rw [ha]
theorem delG_none {α : Type} {A : List (ByteArray × α)} {key : ByteArray} (ha : fdG key A = none) : delG A key = A := by unfold delG; rw [ha]
/-- the record's block with another cost -/
theorem rec_cost {w : World} {r d : Nat} {s c : Value} (h : w.heap[r]? = some (.cells #[s, .pointer (some ⟨d, 0, none⟩), c] 138 (0, 0))) (c' : Value) :
    (w.setCell ⟨r, 2, none⟩ c').heap[r]? = some (.cells #[s, .pointer (some ⟨d, 0, none⟩), c'] 138 (0, 0)) := by
  rw [heap_setCell_same w r 2 _ _ c' h]
  rfl
set_option maxRecDepth 100000 in
set_option maxHeartbeats 1000000 in
theorem recSet_there (w : World) (B : Nat) (F : Nat → Prop) (r d : Nat) (M : DM) (A : List Pr) (key s was : ByteArray) (i : Nat) (h : RecF w B F r d M A) (hB : B ≤ w.heap.size) (hf : Fits (key, s)) (ha : fdG key A = some i) (hw : A[i]? = some (key, was)) :
    Calls Try.prog 24 #[.pointer (some ⟨r, 0, none⟩), .string key, .string s] w fun e w' => e = .returned (.tuple #[.bool false, .int .i64 0]) ∧ ∃ t b, RecGot w B F r d (setM (stepM M) key (vl s) t b) (setG A key s) w' := by
  have hk : key.size ≤ maxLen := by have := hf.1; unfold maxLen; dsimp only at this; omega
  have hfw : Fits (key, was) := h.fit _ (List.mem_of_getElem? hw)
  have HG := Lib.hid (get_G w d M A key hk h.dat h.like)
  rw [valG_some ha hw, ha] at HG
  have hm := @maxN Try.prog key.size s.size
  have hg : ¬ 1048576 < max key.size s.size := by
    have h1 := hf.1
    have h2 := hf.2
    dsimp only at h1 h2
    omega
  obtain ⟨m, hmm⟩ : ∃ m, max key.size s.size = m := ⟨_, rfl⟩
  rw [hmm] at hm hg
  have g1 : decide (1048576 < (m : Int)) = false := by rw [decide_eq_false_iff_not]; omega
  clear hmm
  have c1 := h.dict0
  have hcost := costP_at hw
  have hcost2 : costP (setG A key s) = prC (key, s) + costP (A.eraseIdx i) := by rw [setG_some ha]; exact costP_set _ (fdG_lt ha)
  have hle : costP (setG A key s) ≤ 4398046511104 := by
    have h1 := costP_le (fits_set h.fit hf)
    have h2 := h.len
    have h3 : (setG A key s).length = A.length := by rw [setG_some ha]; simp
    rw [h3] at h1
    omega
  have hle0 : costP A ≤ 4398046511104 := by have h1 := costP_le h.fit; have h2 := h.len; omega
  have HC1 : ∀ W, Hid (Calls Try.prog 97 #[.string key, .string was] W fun e w' => e = .returned (.int .i64 (prC (key, was) : Nat)) ∧ W = w') := fun W => costs_any W key was hfw
  have HC2 : ∀ W, Hid (Calls Try.prog 97 #[.string key, .string s] W fun e w' => e = .returned (.int .i64 (prC (key, s) : Nat)) ∧ W = w') := fun W => costs_any W key s hf
  obtain ⟨p1, hp1⟩ : ∃ p, prC (key, was) = p := ⟨_, rfl⟩
  obtain ⟨p2, hp2⟩ : ∃ p, prC (key, s) = p := ⟨_, rfl⟩
  obtain ⟨q, hq⟩ : ∃ q, costP (A.eraseIdx i) = q := ⟨_, rfl⟩
  rw [hp1, hq] at hcost
  rw [hp2, hq] at hcost2
  rw [hp1] at HC1
  rw [hp2] at HC2
  obtain ⟨cA, hcA⟩ : ∃ c, costP A = c := ⟨_, rfl⟩
  have e1 : IntKind.i64.wrap ((cA : Int) - (p1 : Int)) = (q : Int) := by rw [IntWalk.i64_in _ (by omega)]; omega
  have e2 : IntKind.i64.wrap ((q : Int) + (p2 : Int)) = ((p2 + q : Nat) : Int) := by rw [IntWalk.i64_in _ (by omega)]; omega
  obtain ⟨cB, hcB⟩ : ∃ c, p2 + q = c := ⟨_, rfl⟩
  rw [hcB] at e2 hcost2
  have HCB := Lib.hid hcost2
  have H := Lib.hid h
  have HF := Lib.hid hf
  have HA := Lib.hid ha
  have HK := Lib.hid hk
  have HCA := Lib.hid hcA
  clear h hf hw hfw hcost hcost2 hle hle0 hp1 hp2 hq hcA hcB hk ha
  go_enter Try.func24, Try.ntmps24
  go_wp2_with fail
  refine HG.out.mono ?_
  rintro e w1 ⟨rfl, T1, L1⟩
  obtain ⟨R1, F1⟩ := H.out.turn hB T1 L1 (step_lens M).2.2.1
  have HR1 := Lib.hid R1
  have HF1 := Lib.hid F1
  have c2 := R1.cost0
  rw [HCA.out] at c2
  have c3 := R1.dict0
  have z2 := R1.free 2
  clear T1 L1 R1 F1 HG c1
  have k2 : w1.drew.cell? ⟨r, 2, none⟩ = some (.int .i64 cA) := c2
  have k3 : w1.drew.cell? ⟨r, 1, none⟩ = some (.pointer (some ⟨d, 0, none⟩)) := c3
  have kz : w1.drew.frozen? ⟨r, 2, none⟩ = false := z2
  go_upto_region 7 with fail
  refine wp_region_still_tail 10 (by kernel_rfl) (by kernel_rfl) ?_
  simp only [List.take_succ_cons, List.take_zero, List.drop_succ_cons, List.drop_zero]
  iterate 6 still_step
  still_call ((HC1 _).out.mono fun _ _ h => ⟨h.1, h.2.symm⟩)
  iterate 3 still_step
  refine wpStill_nil ?_
  obtain ⟨w2, hw2⟩ : ∃ w2, w1.drew.setCell ⟨r, 2, none⟩ (.int .i64 (q : Int)) = w2 := ⟨_, rfl⟩
  have b2 : w2.heap[r]? = some (.cells #[.int .u64 (wd (stepM M).seed), .pointer (some ⟨d, 0, none⟩), .int .i64 (q : Int)] 138 (0, 0)) := by
    rw [← hw2]
    exact rec_cost (w := w1.drew) HR1.out.blk _
  have f2 : Fr (fun k => k = r) w1 w2 := by
    rw [← hw2]
    exact (Fr.drew (fun k => k = r) w1).thenSet _ _ (fun _ => rfl)
  have m2 : w2.drew.cell? ⟨r, 2, none⟩ = some (.int .i64 (q : Int)) := cell_of_blk (w := w2.drew) b2 2
  have m3 : w2.drew.cell? ⟨r, 1, none⟩ = some (.pointer (some ⟨d, 0, none⟩)) := cell_of_blk (w := w2.drew) b2 1
  have mz : w2.drew.frozen? ⟨r, 2, none⟩ = false := free_of_blk (w := w2.drew) b2 2
  have B2 := Lib.hid b2
  have F2 := Lib.hid f2
  clear b2 f2 c2 c3 z2
  go_upto_region 10 with fail
  try rw [hw2]
  clear hw2 k2 k3 kz
  refine wp_region_still_tail 10 (by kernel_rfl) (by kernel_rfl) ?_
  simp only [List.take_succ_cons, List.take_zero, List.drop_succ_cons, List.drop_zero]
  iterate 6 still_step
  still_call ((HC2 _).out.mono fun _ _ h => ⟨h.1, h.2.symm⟩)
  iterate 3 still_step
  refine wpStill_nil ?_
  obtain ⟨w3, hw3⟩ : ∃ w3, w2.drew.setCell ⟨r, 2, none⟩ (.int .i64 (cB : Int)) = w3 := ⟨_, rfl⟩
  have b3 : w3.heap[r]? = some (.cells #[.int .u64 (wd (stepM M).seed), .pointer (some ⟨d, 0, none⟩), .int .i64 (cB : Int)] 138 (0, 0)) := by
    rw [← hw3]
    exact rec_cost (w := w2.drew) B2.out _
  have f3 : Fr (fun k => k = r) w1 w3 := by
    rw [← hw3]
    exact F2.out.thenDrew.thenSet _ _ (fun _ => rfl)
  have n3 : w3.cell? ⟨r, 1, none⟩ = some (.pointer (some ⟨d, 0, none⟩)) := cell_of_blk b3 1
  have B3 := Lib.hid b3
  have F3 := Lib.hid f3
  have HS := Lib.hid (set_G w3 d (stepM M) A key s HK.out (HR1.out.dat.fr F3.out (fun k hk e => HR1.out.rd (by rw [← show k = r from e]; exact hk))) HR1.out.like (by have := HR1.out.len; omega))
  clear b3 f3 m3
  go_wp2_with (go_at_call 99; refine HS.out.mono ?_; rintro e w4 ⟨rfl, t, b, T4, L4⟩; have HT4 := Lib.hid T4; have HL4 := Lib.hid L4; clear T4 L4)
  go_ret2
  refine ⟨by rw [HA.out]; rfl, t, b, RecGot.trans ⟨HR1.out, HF1.out⟩ (HR1.out.turnC (Nat.le_trans hB HF1.out.size) (by rw [HCB.out]; exact B3.out) F3.out HT4.out HL4.out ?_ ?_ ?_) hB H.out.lt⟩
  · exact set_seed HR1.out.like.inv key _ t b
  · rw [setG_some HA.out, List.length_set]; exact H.out.len
  · exact fits_set H.out.fit HF.out
end Go.Proofs.Ytgomilodeaafdaa
namespace Go.Proofs.Ytgomilodeaafdaa
open Go.RowKit Ds
theorem max_fits {key s : ByteArray} (hf : Fits (key, s)) : ¬ 1048576 < max key.size s.size := by
  have h1 := hf.1
  have h2 := hf.2
  dsimp only at h1 h2
  omega
set_option maxRecDepth 100000 in
set_option maxHeartbeats 1000000 in
theorem recSet_full (w : World) (B : Nat) (F : Nat → Prop) (r d : Nat) (M : DM) (A : List Pr) (key s : ByteArray) (h : RecF w B F r d M A) (hB : B ≤ w.heap.size) (hf : Fits (key, s)) (ha : fdG key A = none) (hl : 1048576 ≤ A.length) :
    Calls Try.prog 24 #[.pointer (some ⟨r, 0, none⟩), .string key, .string s] w fun e w' => e = .returned (.tuple #[.bool false, .int .i64 4]) ∧ RecGot w B F r d (stepM M) A w' := by
  have hk : key.size ≤ maxLen := by have := hf.1; unfold maxLen; dsimp only at this; omega
  have HG := Lib.hid (get_G w d M A key hk h.dat h.like)
  rw [valG_none ha, ha] at HG
  have hm := @maxN Try.prog key.size s.size
  have hg := max_fits hf
  obtain ⟨m, hmm⟩ : ∃ m, max key.size s.size = m := ⟨_, rfl⟩
  rw [hmm] at hm hg
  have g1 : decide (1048576 < (m : Int)) = false := by rw [decide_eq_false_iff_not]; omega
  have g2 : decide (1048576 ≤ (A.length : Int)) = true := by rw [decide_eq_true_eq]; omega
  clear hmm
  have c1 := h.dict0
  have H := Lib.hid h
  clear h hf hk ha hl
  go_enter Try.func24, Try.ntmps24
  go_wp2_with fail
  refine HG.out.mono ?_
  rintro e w1 ⟨rfl, T1, L1⟩
  obtain ⟨R1, F1⟩ := H.out.turn hB T1 L1 (step_lens M).2.2.1
  have HL := Lib.hid (len_G w1 d (stepM M) A A.length R1.dat R1.like (by have := R1.len; omega) rfl)
  have HR1 := Lib.hid R1
  have HF1 := Lib.hid F1
  have c3 := R1.dict0
  clear T1 L1 R1 F1 HG c1
  go_wp2_with (go_at_call 98; refine HL.out.mono ?_; rintro e w' ⟨rfl, rfl⟩)
  go_ret2
  exact ⟨rfl, HR1.out, HF1.out⟩
set_option maxRecDepth 100000 in
set_option maxHeartbeats 1000000 in
theorem recSet_new (w : World) (B : Nat) (F : Nat → Prop) (r d : Nat) (M : DM) (A : List Pr) (key s : ByteArray) (h : RecF w B F r d M A) (hB : B ≤ w.heap.size) (hf : Fits (key, s)) (ha : fdG key A = none) (hl : A.length < 1048576) :
    Calls Try.prog 24 #[.pointer (some ⟨r, 0, none⟩), .string key, .string s] w fun e w' => e = .returned (.tuple #[.bool true, .int .i64 0]) ∧ ∃ t b, RecGot w B F r d (setM (stepM M) key (vl s) t b) (setG A key s) w' := by
  have hk : key.size ≤ maxLen := by have := hf.1; unfold maxLen; dsimp only at this; omega
  have HG := Lib.hid (get_G w d M A key hk h.dat h.like)
  rw [valG_none ha, ha] at HG
  have hm := @maxN Try.prog key.size s.size
  have hg := max_fits hf
  obtain ⟨m, hmm⟩ : ∃ m, max key.size s.size = m := ⟨_, rfl⟩
  rw [hmm] at hm hg
  have g1 : decide (1048576 < (m : Int)) = false := by rw [decide_eq_false_iff_not]; omega
  have g2 : decide (1048576 ≤ (A.length : Int)) = false := by rw [decide_eq_false_iff_not]; omega
  clear hmm
  have c1 := h.dict0
  have hcost2 : costP (setG A key s) = costP A + prC (key, s) := by rw [setG_none ha]; exact costP_snoc _ _
  have hlen : (setG A key s).length ≤ 1048576 := by rw [setG_none ha, List.length_append]; simp; omega
  have hle : costP (setG A key s) ≤ 4398046511104 := by
    have h1 := costP_le (fits_set h.fit hf)
    omega
  have HC2 : ∀ W, Hid (Calls Try.prog 97 #[.string key, .string s] W fun e w' => e = .returned (.int .i64 (prC (key, s) : Nat)) ∧ W = w') := fun W => costs_any W key s hf
  obtain ⟨p2, hp2⟩ : ∃ p, prC (key, s) = p := ⟨_, rfl⟩
  rw [hp2] at hcost2 HC2
  obtain ⟨cA, hcA⟩ : ∃ c, costP A = c := ⟨_, rfl⟩
  rw [hcA] at hcost2
  have e2 : IntKind.i64.wrap ((cA : Int) + (p2 : Int)) = ((cA + p2 : Nat) : Int) := by rw [IntWalk.i64_in _ (by omega)]; omega
  obtain ⟨cB, hcB⟩ : ∃ c, cA + p2 = c := ⟨_, rfl⟩
  rw [hcB] at e2 hcost2
  have HCB := Lib.hid hcost2
  have H := Lib.hid h
  have HF := Lib.hid hf
  have HA := Lib.hid ha
  have HK := Lib.hid hk
  have HCA := Lib.hid hcA
  have HLE := Lib.hid hlen
  clear h hf hcost2 hle hp2 hcA hcB hk ha hlen hl
  go_enter Try.func24, Try.ntmps24
  go_wp2_with fail
  refine HG.out.mono ?_
  rintro e w1 ⟨rfl, T1, L1⟩
  obtain ⟨R1, F1⟩ := H.out.turn hB T1 L1 (step_lens M).2.2.1
  have HL := Lib.hid (len_G w1 d (stepM M) A A.length R1.dat R1.like (by have := R1.len; omega) rfl)
  have HR1 := Lib.hid R1
  have HF1 := Lib.hid F1
  have c2 := R1.cost0
  rw [HCA.out] at c2
  have c3 := R1.dict0
  have z2 := R1.free 2
  clear T1 L1 R1 F1 HG c1
  have k2 : w1.drew.cell? ⟨r, 2, none⟩ = some (.int .i64 cA) := c2
  have k3 : w1.drew.cell? ⟨r, 1, none⟩ = some (.pointer (some ⟨d, 0, none⟩)) := c3
  have kz : w1.drew.frozen? ⟨r, 2, none⟩ = false := z2
  go_upto_region 10 with (go_at_call 98; refine HL.out.mono ?_; rintro e w' ⟨rfl, rfl⟩)
  refine wp_region_still_tail 10 (by kernel_rfl) (by kernel_rfl) ?_
  simp only [List.take_succ_cons, List.take_zero, List.drop_succ_cons, List.drop_zero]
  iterate 6 still_step
  still_call ((HC2 _).out.mono fun _ _ h => ⟨h.1, h.2.symm⟩)
  iterate 3 still_step
  refine wpStill_nil ?_
  obtain ⟨w3, hw3⟩ : ∃ w3, w1.drew.setCell ⟨r, 2, none⟩ (.int .i64 (cB : Int)) = w3 := ⟨_, rfl⟩
  have b3 : w3.heap[r]? = some (.cells #[.int .u64 (wd (stepM M).seed), .pointer (some ⟨d, 0, none⟩), .int .i64 (cB : Int)] 138 (0, 0)) := by
    rw [← hw3]
    exact rec_cost (w := w1.drew) HR1.out.blk _
  have f3 : Fr (fun k => k = r) w1 w3 := by
    rw [← hw3]
    exact (Fr.drew (fun k => k = r) w1).thenSet _ _ (fun _ => rfl)
  have n3 : w3.cell? ⟨r, 1, none⟩ = some (.pointer (some ⟨d, 0, none⟩)) := cell_of_blk b3 1
  have B3 := Lib.hid b3
  have F3 := Lib.hid f3
  have HS := Lib.hid (set_G w3 d (stepM M) A key s HK.out (HR1.out.dat.fr F3.out (fun k hk e => HR1.out.rd (by rw [← show k = r from e]; exact hk))) HR1.out.like (by have := HR1.out.len; omega))
  clear b3 f3 c2 c3 z2 k3
  go_wp2_with (go_at_call 99; refine HS.out.mono ?_; rintro e w4 ⟨rfl, t, b, T4, L4⟩; have HT4 := Lib.hid T4; have HL4 := Lib.hid L4; clear T4 L4)
  go_ret2
  refine ⟨by rw [HA.out]; rfl, t, b, RecGot.trans ⟨HR1.out, HF1.out⟩ (HR1.out.turnC (Nat.le_trans hB HF1.out.size) (by rw [HCB.out]; exact B3.out) F3.out HT4.out HL4.out ?_ HLE.out ?_) hB H.out.lt⟩
  · exact set_seed HR1.out.like.inv key _ t b
  · exact fits_set H.out.fit HF.out
end Go.Proofs.Ytgomilodeaafdaa
namespace Go.Proofs.Ytgomilodeaafdaa
open Go.RowKit Ds
theorem recDel_none (w : World) (B : Nat) (F : Nat → Prop) (r d : Nat) (M : DM) (A : List Pr) (key : ByteArray) (h : RecF w B F r d M A) (hB : B ≤ w.heap.size) (hk : key.size ≤ maxLen) (ha : fdG key A = none) :
    Calls Try.prog 29 #[.pointer (some ⟨r, 0, none⟩), .string key] w fun e w' => e = .returned (.bool false) ∧ RecGot w B F r d (stepM M) A w' := by
  have HG := Lib.hid (recGet_any w B F r d M A key h hB hk)
  rw [valG_none ha, ha] at HG
  clear h ha
  go_enter Try.func29, Try.ntmps29
  go_wp2_with fail
  refine HG.out.mono ?_
  rintro e w1 ⟨rfl, R1⟩
  have HR1 := Lib.hid R1
  clear R1
  go_wp2_with fail
  go_ret
  exact ⟨rfl, HR1.out⟩
set_option maxRecDepth 100000 in
set_option maxHeartbeats 1000000 in
theorem recDel_there (w : World) (B : Nat) (F : Nat → Prop) (r d : Nat) (M : DM) (A : List Pr) (key was : ByteArray) (i : Nat) (h : RecF w B F r d M A) (hB : B ≤ w.heap.size) (hk : key.size ≤ maxLen) (ha : fdG key A = some i) (hw : A[i]? = some (key, was)) :
    Calls Try.prog 29 #[.pointer (some ⟨r, 0, none⟩), .string key] w fun e w' => e = .returned (.bool true) ∧ ∃ t, RecGot w B F r d (delM (stepM M) key t) (delG A key) w' := by
  have hfw : Fits (key, was) := h.fit _ (List.mem_of_getElem? hw)
  have HG := Lib.hid (recGet_any w B F r d M A key h hB hk)
  rw [valG_some ha hw, ha] at HG
  have hcost := costP_at hw
  have hcost2 : costP (delG A key) = costP (A.eraseIdx i) := by rw [delG_some ha]
  have hle0 : costP A ≤ 4398046511104 := by have h1 := costP_le h.fit; have h2 := h.len; omega
  have HC1 : ∀ W, Hid (Calls Try.prog 97 #[.string key, .string was] W fun e w' => e = .returned (.int .i64 (prC (key, was) : Nat)) ∧ W = w') := fun W => costs_any W key was hfw
  obtain ⟨p1, hp1⟩ : ∃ p, prC (key, was) = p := ⟨_, rfl⟩
  obtain ⟨q, hq⟩ : ∃ q, costP (A.eraseIdx i) = q := ⟨_, rfl⟩
  rw [hp1, hq] at hcost
  rw [hq] at hcost2
  rw [hp1] at HC1
  obtain ⟨cA, hcA⟩ : ∃ c, costP A = c := ⟨_, rfl⟩
  have e1 : IntKind.i64.wrap ((cA : Int) - (p1 : Int)) = (q : Int) := by rw [IntWalk.i64_in _ (by omega)]; omega
  have HCB := Lib.hid hcost2
  have H := Lib.hid h
  have HA := Lib.hid ha
  have HK := Lib.hid hk
  have HCA := Lib.hid hcA
  clear h hw hfw hcost hcost2 hle0 hp1 hq hcA hk ha
  go_enter Try.func29, Try.ntmps29
  go_wp2_with fail
  refine HG.out.mono ?_
  rintro e w1 ⟨rfl, R1, F1⟩
  have HR1 := Lib.hid R1
  have HF1 := Lib.hid F1
  have c2 := R1.cost0
  rw [HCA.out] at c2
  have c3 := R1.dict0
  have z2 := R1.free 2
  clear R1 F1 HG
  have k2 : w1.drew.cell? ⟨r, 2, none⟩ = some (.int .i64 cA) := c2
  have k3 : w1.drew.cell? ⟨r, 1, none⟩ = some (.pointer (some ⟨d, 0, none⟩)) := c3
  have kz : w1.drew.frozen? ⟨r, 2, none⟩ = false := z2
  go_upto_region 4 with fail
  refine wp_region_still_tail 10 (by kernel_rfl) (by kernel_rfl) ?_
  simp only [List.take_succ_cons, List.take_zero, List.drop_succ_cons, List.drop_zero]
  iterate 6 still_step
  still_call ((HC1 _).out.mono fun _ _ h => ⟨h.1, h.2.symm⟩)
  iterate 3 still_step
  refine wpStill_nil ?_
  obtain ⟨w3, hw3⟩ : ∃ w3, w1.drew.setCell ⟨r, 2, none⟩ (.int .i64 (q : Int)) = w3 := ⟨_, rfl⟩
  have b3 : w3.heap[r]? = some (.cells #[.int .u64 (wd (stepM M).seed), .pointer (some ⟨d, 0, none⟩), .int .i64 (q : Int)] 138 (0, 0)) := by
    rw [← hw3]
    exact rec_cost (w := w1.drew) HR1.out.blk _
  have f3 : Fr (fun k => k = r) w1 w3 := by
    rw [← hw3]
    exact (Fr.drew (fun k => k = r) w1).thenSet _ _ (fun _ => rfl)
  have n3 : w3.cell? ⟨r, 1, none⟩ = some (.pointer (some ⟨d, 0, none⟩)) := cell_of_blk b3 1
  have B3 := Lib.hid b3
  have F3 := Lib.hid f3
  have HS := Lib.hid (del_G w3 d (stepM M) A key HK.out (HR1.out.dat.fr F3.out (fun k hk e => HR1.out.rd (by rw [← show k = r from e]; exact hk))) HR1.out.like (by have := HR1.out.len; omega))
  clear b3 f3 c2 c3 z2 k3
  go_wp2_with (go_at_call 104; refine HS.out.mono ?_; rintro e w4 ⟨rfl, t, T4, L4⟩; have HT4 := Lib.hid T4; have HL4 := Lib.hid L4; clear T4 L4)
  go_ret
  refine ⟨by rw [HA.out]; rfl, t, RecGot.trans ⟨HR1.out, HF1.out⟩ (HR1.out.turnC (Nat.le_trans hB HF1.out.size) (by rw [HCB.out]; exact B3.out) F3.out HT4.out HL4.out ?_ ?_ ?_) hB H.out.lt⟩
  · exact del_seed HR1.out.like.inv key t
  · exact Nat.le_trans len_del H.out.len
  · exact fits_del H.out.fit
theorem recCost_any (w : World) (B : Nat) (F : Nat → Prop) (r d : Nat) (M : DM) (A : List Pr) (h : RecF w B F r d M A) : Calls Try.prog 32 #[.pointer (some ⟨r, 0, none⟩)] w fun e w' => e = .returned (.int .i64 (costP A : Nat)) ∧ w = w' := by
  have c1 := h.cost0
  obtain ⟨c, hc⟩ : ∃ c, costP A = c := ⟨_, rfl⟩
  rw [hc] at c1 ⊢
  clear h hc
  go_enter Try.func32, Try.ntmps32
  go_wp2
  go_ret
  exact ⟨rfl, rfl⟩
/-- what Set makes of a record that has room -/
theorem recSet_any (w : World) (B : Nat) (F : Nat → Prop) (r d : Nat) (M : DM) (A : List Pr) (key s : ByteArray) (h : RecF w B F r d M A) (hB : B ≤ w.heap.size) (hf : Fits (key, s)) (hl : A.length < 1048576) :
    Calls Try.prog 24 #[.pointer (some ⟨r, 0, none⟩), .string key, .string s] w fun e w' => e = .returned (.tuple #[.bool (fdG key A).isNone, .int .i64 0]) ∧ ∃ t b, RecGot w B F r d (setM (stepM M) key (vl s) t b) (setG A key s) w' := by
  cases ha : fdG key A with
  | none => exact recSet_new w B F r d M A key s h hB hf ha hl
  | some i =>
    obtain ⟨was, hw⟩ := fdG_some ha
    exact recSet_there w B F r d M A key s was i h hB hf ha hw
theorem recDel_any (w : World) (B : Nat) (F : Nat → Prop) (r d : Nat) (M : DM) (A : List Pr) (key : ByteArray) (h : RecF w B F r d M A) (hB : B ≤ w.heap.size) (hk : key.size ≤ maxLen) :
    Calls Try.prog 29 #[.pointer (some ⟨r, 0, none⟩), .string key] w fun e w' => e = .returned (.bool (fdG key A).isSome) ∧ ∃ M', RecGot w B F r d M' (delG A key) w' ∧ ((fdG key A = none ∧ M' = stepM M) ∨ ((fdG key A).isSome = true ∧ ∃ t, M' = delM (stepM M) key t)) := by
  cases ha : fdG key A with
  | none => exact (recDel_none w B F r d M A key h hB hk ha).mono fun e w' ⟨h1, h2⟩ => ⟨h1, _, by rw [delG_none ha]; exact h2, .inl ⟨rfl, rfl⟩⟩
  | some i =>
    obtain ⟨was, hw⟩ := fdG_some ha
    exact (recDel_there w B F r d M A key was i h hB hk ha hw).mono fun e w' ⟨h1, t, h2⟩ => ⟨h1, _, h2, .inr ⟨rfl, t, rfl⟩⟩
end Go.Proofs.Ytgomilodeaafdaa
namespace Go.Proofs.Ytgomilodeaafdaa
open Go.RowKit Go.Sort
def cmpS (x y : ByteArray) : Int := if Op.bytesLess x.toList y.toList then -1 else if (x.toList == y.toList) then 0 else 1
theorem nanS_any (x : ByteArray) (w : World) : Calls Try.prog 161 #[.string x] w fun e w' => e = .returned (.bool false) ∧ w = w' := by
  have hx : (x.toList == x.toList) = true := by rw [str_beq]; simp
  go_enter Try.func161, Try.ntmps161
  go_wp2
  go_ret
  exact ⟨rfl, rfl⟩
theorem cmpS_any (x y : ByteArray) (w : World) : Calls Try.prog 103 #[.string x, .string y] w fun e w' => e = .returned (.int .i64 (cmpS x y)) ∧ w = w' := by
  have H : Hid (cmpS x y = if Op.bytesLess x.toList y.toList then -1 else if (x.toList == y.toList) then 0 else 1) := rfl
  obtain ⟨r, hr⟩ : ∃ r, cmpS x y = r := ⟨_, rfl⟩
  rw [hr] at H ⊢
  clear hr
  go_enter Try.func103, Try.ntmps103
  go_wp2_with fail
  refine (nanS_any _ _).mono ?_
  rintro e w' ⟨rfl, rfl⟩
  go_wp2_with fail
  refine (nanS_any _ _).mono ?_
  rintro e w' ⟨rfl, rfl⟩
  cases g1 : Op.bytesLess x.toList y.toList
  · cases g2 : (x.toList == y.toList)
    · obtain rfl : r = 1 := by rw [H.out, g1, g2]; rfl
      go_wp2
      go_ret
      exact ⟨rfl, rfl⟩
    · obtain rfl : r = 0 := by rw [H.out, g1, g2]; rfl
      go_wp2
      go_ret
      exact ⟨rfl, rfl⟩
  · obtain rfl : r = -1 := by rw [H.out, g1]; rfl
    go_wp2
    go_ret
    exact ⟨rfl, rfl⟩
def cfP (a b : Pr) : Int := cmpS a.1 b.1
def encP (a : Pr) : List Value := [.string a.1, .string a.2]
theorem pairs1_any (a b : Pr) (W : World) : Calls Try.prog 102 #[.agg #[.string a.1, .string a.2], .agg #[.string b.1, .string b.2]] W fun e w' => e = .returned (.int .i64 (cfP a b)) ∧ ∃ q os', w' = grow (W.drewN q) os' := by
  have hc : ∀ W', Calls Try.prog 103 #[.string a.1, .string b.1] W' fun e w' => e = .returned (.int .i64 (cmpS a.1 b.1)) ∧ w' = W' := fun W' => (cmpS_any a.1 b.1 W').mono fun _ _ h => ⟨h.1, h.2.symm⟩
  obtain ⟨x, hx⟩ : ∃ x, cmpS a.1 b.1 = x := ⟨_, rfl⟩
  have hx2 : cfP a b = x := hx
  rw [hx] at hc
  rw [hx2]
  obtain ⟨a1, a2⟩ := a
  obtain ⟨b1, b2⟩ := b
  clear hx hx2
  dsimp only at hc ⊢
  go_enter Try.func102, Try.ntmps102
  go_wp2_with (go_at_call 103; refine (hc _).mono ?_; rintro e w' ⟨rfl, rfl⟩)
  go_ret
  exact ⟨rfl, 0, _, by rw [alloc_eq_grow, alloc_eq_grow]; show grow (grow (W.drewN 0) _) _ = _; rw [grow_grow]⟩
end Go.Proofs.Ytgomilodeaafdaa
namespace Go.Proofs.Ytgomilodeaafdaa
open Go.RowKit Go.Sort Go.Shelf Go.Lib
theorem flatAt {α : Type} (f : α → List Value) (n : Nat) (hf : ∀ x, (f x).length = n) (l : List α) (k j : Nat) (hk : k < l.length) (hj : j < n) : (l.flatMap f)[k * n + j]? = (f l[k])[j]? := by
  induction l generalizing k with
  | nil => simp at hk
  | cons x l ih =>
    rw [List.flatMap_cons]
    cases k with
    | zero =>
      rw [Nat.zero_mul, Nat.zero_add, List.getElem?_append_left (by rw [hf]; exact hj)]
      rfl
    | succ k =>
      have := ih k (by simpa using hk)
      rw [List.getElem?_append_right (by rw [hf, Nat.succ_mul]; omega), hf, show (k + 1) * n + j - n = k * n + j by rw [Nat.succ_mul]; omega]
      exact this
theorem flat_size {α : Type} (f : α → List Value) (n : Nat) (hf : ∀ x, (f x).length = n) (l : List α) : (l.flatMap f).length = l.length * n := by
  induction l with
  | nil => simp
  | cons a l ih => rw [List.flatMap_cons, List.length_append, ih, hf, List.length_cons, Nat.succ_mul, Nat.add_comm]
section
variable {α : Type} [Inhabited α] (f : α → List Value) (hf : ∀ x, (f x).length = 2)
include hf
theorem flatK_2 (l : List α) : flatK f 2 l.toArray = (l.flatMap f).toArray := by
  have hl := flat_size f 2 hf l
  refine ext_get! (by simp [hl]) fun t ht => ?_
  have ht' : t < l.length * 2 := by simpa using ht
  rw [get_flatK _ _ _ t (by simpa using ht')]
  have h1 := flatAt f 2 hf l (t / 2) (t % 2) (by omega) (Nat.mod_lt _ (by decide))
  have h2 : t / 2 * 2 + t % 2 = t := by omega
  rw [h2] at h1
  have h3 : (l.toArray[t / 2]!) = l[t / 2]'(by omega) := by
    rw [getElem!_pos l.toArray (t / 2) (by simp; omega)]
    simp
  rw [h3]
  have h4 : (l.flatMap f).toArray[t]! = (l.flatMap f)[t]'(by rw [hl]; exact ht') := by
    rw [getElem!_pos (l.flatMap f).toArray t (by simp only [List.size_toArray]; rw [hl]; exact ht')]
    simp
  rw [h4]
  have h5 : (l.flatMap f)[t]? = some ((l.flatMap f)[t]'(by rw [hl]; exact ht')) := List.getElem?_eq_getElem _
  rw [h1] at h5
  rw [List.getElem!_eq_getElem?_getD, h5]
  rfl
/-- the row's block -/
theorem holds2 {w : World} {g : Nat} {cur : Array Value} {e : TypeId} {l : List α} (hb : w.heap[g]? = some (.cells cur e (0, 0))) (ht : cur.toList.take (l.length * 2) = l.flatMap f) : HoldsK f 2 w g 0 l.toArray := by
  have hl := flat_size f 2 hf l
  unfold HoldsK
  rw [flatK_2 f hf]
  intro j hj
  have hj' : j < l.length * 2 := by rw [← hl]; simpa using hj
  refine ⟨?_, by simp [World.frozen?, hb]⟩
  have h1 : (cur.toList.take (l.length * 2))[j]? = (l.flatMap f)[j]? := by rw [ht]
  rw [List.getElem?_take_of_lt hj'] at h1
  simp only [World.cell?, hb, Nat.zero_add]
  simp only [Option.isSome_none, Bool.false_eq_true, if_false]
  rw [← Array.getElem?_toList, h1]
  have hj2 : j < (l.flatMap f).length := by rw [hl]; exact hj'
  rw [List.getElem?_eq_getElem hj2, getElem!_pos (l.flatMap f).toArray j (by simpa using hj2)]
  simp
end
theorem take_put2 (cur : Array Value) (ts : List Value) (h : ts.length ≤ cur.size) : (putCells id 0 ts.toArray cur).toList.take ts.length = ts := by
  apply List.ext_getElem?
  intro j
  by_cases hj : j < ts.length
  · rw [List.getElem?_take_of_lt hj, Array.getElem?_toList]
    simp [putCells, hj, show j < cur.size by omega]
  · rw [List.getElem?_take_eq_none (by omega), List.getElem?_eq_none (by omega)]
theorem heap_put2 {w : World} {g n : Nat} {os : Array Obj} {cur : Array Value} {e : TypeId} {fr : Nat × Nat} (d : Array Value) (hb : w.heap[g]? = some (.cells cur e fr)) :
    (grow (putRow id (Sort.ahead w n) g 0 d) os).heap[g]? = some (.cells (putCells id 0 d cur) e fr) := by
  have hg : g < w.heap.size := (Array.getElem?_eq_some_iff.1 hb).1
  rw [heap_grow_old _ _ (by simpa using hg)]
  simp [putRow, mapBlock, Sort.ahead, Array.getElem?_modify, hb, onCells]
def ltP (a b : Pr) : Prop := a.1.toList < b.1.toList
theorem ltOf_P (a b : Pr) : ltOf cfP a b = decide (a.1.toList < b.1.toList) := by
  unfold ltOf cfP cmpS
  rw [bytesLess_eq]
  by_cases h4 : a.1.toList < b.1.toList
  · simp [h4]
  · by_cases h5 : (a.1.toList == b.1.toList) = true
    · simp [h4, h5]
    · simp [h4, h5]
theorem key_eq {a b : ByteArray} (h1 : ¬ a.toList < b.toList) (h2 : ¬ b.toList < a.toList) : a = b := by
  have hk : a.toList = b.toList := List.le_antisymm (List.not_lt.1 h2) (List.not_lt.1 h1)
  rw [Go.ByteArray.toList_eq, Go.ByteArray.toList_eq] at hk
  cases a; cases b
  simp only [ByteArray.mk.injEq] at hk ⊢
  exact Array.toList_inj.1 hk
def cfM (l : List Pr) (a b : { x : Pr // x ∈ l }) : Int := cfP a.1 b.1
theorem ltOf_M (l : List Pr) (a b : { x : Pr // x ∈ l }) : ltOf (cfM l) a b = decide (a.1.1.toList < b.1.1.toList) := ltOf_P a.1 b.1
theorem swoM (l : List Pr) : SWO (ltOf (cfM l)) where
  irrefl x := by rw [ltOf_M]; simp [List.lt_irrefl]
  trans x y z h1 h2 := by rw [ltOf_M] at *; simp only [decide_eq_true_eq] at *; exact List.lt_trans h1 h2
  ntrans x y z h1 h2 := by
    rw [ltOf_M] at *
    simp only [decide_eq_false_iff_not] at *
    intro h
    by_cases h3 : x.1.1.toList < y.1.1.toList
    · exact h1 h3
    · by_cases h4 : y.1.1.toList < x.1.1.toList
      · exact h2 (List.lt_trans h4 h)
      · rw [key_eq h3 h4] at h
        exact h2 h
theorem egP : ∀ args w, (callFunc 102 args).run Try.prog w = .ok (.enter 102 args) w := enters_of Try.func102 (by kernel_rfl) rfl
/-- slices.SortFunc by the field: the same pairs, rising -/
def SortPostP (w : World) (B : Nat) (v : Value) (l : List Pr) (e : Ending) (w' : World) : Prop :=
  e = .returned (.tuple #[]) ∧ ∃ l' : List Pr, l'.Perm l ∧ l'.Pairwise ltP ∧ w'.ownsRow B 51 2 v l.length (l'.flatMap encP) ∧ Fr (fun i => v.ownBlock = some i) w w'
theorem sortP_any (w : World) (B : Nat) (v : Value) (l : List Pr) (h : w.ownsRow B 51 2 v l.length (l.flatMap encP)) (hn : l.length < 4611686018427387904) (hd : (l.map (·.1)).Nodup) :
    Calls Try.prog 101 #[v, .func (.func 102) #[] #[]] w (SortPostP w B v l) := by
  obtain ⟨hl, ⟨rfl, h0⟩ | ⟨g, cap, cur, rfl, hbase, hb, h1, h2, h3, h4⟩⟩ := h
  · have hl0 : l = [] := List.length_eq_zero_iff.1 h0
    subst hl0
    exact (AnyF.slices_SortFunc_none Try.sortP none 0 _ w).mono fun e w' ⟨he, hw⟩ => ⟨he, [], List.Perm.refl _, List.Pairwise.nil, World.ownsRow_nil _ _ _ _, by rw [hw]; exact Fr.refl _ _⟩
  · by_cases hl0 : l = []
    · subst hl0
      refine (AnyF.slices_SortFunc_none Try.sortP (some ⟨g, 0, none⟩) cap _ w).mono fun e w' ⟨he, hw⟩ => ⟨he, [], List.Perm.refl _, List.Pairwise.nil, ?_, by rw [hw]; exact Fr.refl _ _⟩
      rw [hw]
      exact ⟨hl, .inr ⟨g, cap, cur, rfl, hbase, hb, h1, h2, h3, h4⟩⟩
    · haveI : Inhabited { x : Pr // x ∈ l } := ⟨⟨l.head hl0, List.head_mem hl0⟩⟩
      have hfe : ∀ k : List { x : Pr // x ∈ l }, k.flatMap (fun x => encP x.1) = (k.map Subtype.val).flatMap encP := fun k => by rw [List.flatMap_map]
      have hat : l.attach.flatMap (fun x => encP x.1) = l.flatMap encP := by rw [hfe, List.attach_map_subtype_val]
      have hH := holds2 (fun x : { x : Pr // x ∈ l } => encP x.1) (fun _ => rfl) (l := l.attach) hb (by rw [hat, List.length_attach]; exact h4)
      have hgl : g < w.heap.size := (Array.getElem?_eq_some_iff.1 hb).1
      have hsz : l.attach.toArray.size < 4611686018427387904 := by simpa using hn
      have hC := AnyQ.slices_SortFunc_total Try.sortP 2 Try.isAgg51 Try.sizeOf51 (fun x : { x : Pr // x ∈ l } => encP x.1) (fun _ => rfl) (fun x v hv => by simp [encP] at hv; rcases hv with rfl | rfl <;> rfl) (cfM l) (swoM l) 102 #[] g 0 cap l.attach.toArray w egP (fun _ _ _ _ x y => pairs1_any x.1 y.1 _) hH hgl hsz
        (fun x y k1 k2 => by
          rw [ltOf_M] at k1 k2
          have hk := key_eq (by simpa using k1) (by simpa using k2)
          obtain ⟨i, hi⟩ := List.mem_iff_getElem?.1 x.2
          obtain ⟨j, hj⟩ := List.mem_iff_getElem?.1 y.2
          have e1 := fdG_nodup (key := x.1.1) (x := x.1.2) hd hi
          have e2 := fdG_nodup (key := y.1.1) (x := y.1.2) hd hj
          rw [hk] at e1
          have e3 := Option.some.inj (e1.symm.trans e2)
          subst e3
          rw [hi] at hj
          exact Subtype.ext (Option.some.inj hj))
      have hsize : l.attach.toArray.size = l.length := by simp
      rw [hsize] at hC
      refine hC.mono ?_
      rintro e w' ⟨he, n, os, hw⟩
      obtain ⟨m, hm⟩ : ∃ m, l.attach.mergeSort (fun x y => !ltOf (cfM l) y x) = m := ⟨_, rfl⟩
      have hmp : m.Perm l.attach := by rw [← hm]; exact List.mergeSort_perm _ _
      have hw2 : w' = grow (putRow id (Sort.ahead w n) g 0 (m.flatMap fun x => encP x.1).toArray) os := by rw [hw, sortWorldK, putRowK, flatK_2 _ (fun _ => rfl), ← hm]
      have hmap : m.flatMap (fun x => encP x.1) = (m.map Subtype.val).flatMap encP := hfe m
      have hperm : (m.map Subtype.val).Perm l := by
        have := hmp.map Subtype.val
        rwa [List.attach_map_subtype_val] at this
      have hlen : ((m.map Subtype.val).flatMap encP).length = l.length * 2 := by rw [flat_size encP 2 (fun _ => rfl), hperm.length_eq]
      have hnd : ((m.map Subtype.val).map (·.1)).Nodup := (hperm.map (·.1)).nodup_iff.2 hd
      have hsort : m.Pairwise fun x y => (!ltOf (cfM l) y x) = true := by
        rw [← hm]
        refine List.pairwise_mergeSort (fun a b c h1 h2 => ?_) (fun a b => ?_) l.attach
        · rw [ltOf_M] at *
          simp only [Bool.not_eq_true', decide_eq_false_iff_not] at *
          intro h
          by_cases h3 : b.1.1.toList < a.1.1.toList
          · exact h1 h3
          · by_cases h4 : a.1.1.toList < b.1.1.toList
            · exact h2 (List.lt_trans h h4)
            · rw [key_eq h4 h3] at h
              exact h2 h
        · rw [ltOf_M, ltOf_M]
          by_cases h3 : b.1.1.toList < a.1.1.toList
          · have h4 : ¬ a.1.1.toList < b.1.1.toList := fun h4 => List.lt_irrefl _ (List.lt_trans h3 h4)
            simp [h4]
          · simp [h3]
      refine ⟨he, m.map Subtype.val, hperm, ?_, ⟨hlen, .inr ⟨g, cap, _, rfl, hbase, by rw [hw2]; exact heap_put2 _ hb, h1, h2, by simp [putCells, h3], ?_⟩⟩, ?_⟩
      · rw [List.pairwise_map]
        rw [List.map_map] at hnd
        have hne : m.Pairwise fun x y => x.1.1 ≠ y.1.1 := List.pairwise_map.1 hnd
        refine (hsort.and hne).imp fun {x y} h => ?_
        have hA := h.1
        rw [ltOf_M] at hA
        simp only [Bool.not_eq_true', decide_eq_false_iff_not] at hA
        by_cases h4 : x.1.1.toList < y.1.1.toList
        · exact h4
        · exact absurd (key_eq h4 hA) h.2
      · rw [hmap, ← hlen]; exact take_put2 cur _ (by rw [hlen, h3]; omega)
      · rw [hw2]
        refine ⟨rfl, rfl, rfl, by simp, fun k hk hne => ?_⟩
        rw [heap_grow_old _ _ (by simpa using hk)]
        have : g ≠ k := fun e => hne (by rw [e]; rfl)
        simp [putRow, mapBlock, Sort.ahead, Array.getElem?_modify, this]
end Go.Proofs.Ytgomilodeaafdaa
namespace Go.Proofs.Ytgomilodeaafdaa
open Go.RowKit Go.Shelf Ds
attribute [local go_sem] Oper.semAt_some
def valS (e : E) : ByteArray := match e.val with
  | [.string s] => s
  | _ => ⟨#[]⟩
def toPr (e : E) : Pr := (e.key, valS e)
def eachP (M : DM) : List Pr := (opn M).flatten.map toPr
theorem eachP_val {M : DM} {A : List Pr} (h : LikeG vl M A) : ∀ e ∈ (opn M).flatten, ∃ xx : ByteArray, e.val = [.string xx] := by
  intro e he
  rw [opn_flatten h.inv] at he
  have h1 : pairOf e ∈ tb M := List.mem_map.2 ⟨e, he, rfl⟩
  obtain ⟨x, _, hx⟩ := List.mem_map.1 (h.perm.mem_iff.1 h1)
  exact ⟨x.2, (congrArg Prod.snd hx).symm⟩
theorem eachP_perm {M : DM} {A : List Pr} (h : LikeG vl M A) : (eachP M).Perm A := by
  have h1 : (eachP M).map (fun x => ((x.1, vl x.2) : ByteArray × List Value)) = tb M := by
    unfold eachP tb
    rw [List.map_map, ← opn_flatten h.inv]
    refine List.map_congr_left fun e he => ?_
    obtain ⟨x, hx⟩ := eachP_val h e he
    show (e.key, [Value.string (valS e)]) = (e.key, e.val)
    unfold valS
    rw [hx]
  have h2 : ((eachP M).map (fun x => ((x.1, vl x.2) : ByteArray × List Value))).Perm (A.map fun x => (x.1, vl x.2)) := by rw [h1]; exact h.perm
  have inv : ∀ l : List Pr, (l.map (fun x => ((x.1, vl x.2) : ByteArray × List Value))).map (fun p => ((p.1, match p.2 with | [.string s] => s | _ => ⟨#[]⟩) : Pr)) = l := by
    intro l
    rw [List.map_map]
    conv => rhs; rw [← List.map_id l]
    exact List.map_congr_left fun _ _ => rfl
  have h3 := h2.map (fun p => ((p.1, match p.2 with | [.string s] => s | _ => ⟨#[]⟩) : Pr))
  rwa [inv, inv] at h3
theorem eachP_len {M : DM} {A : List Pr} (h : LikeG vl M A) : (opn M).flatten.length = A.length := by
  have := (eachP_perm h).length_eq
  rw [← this]; unfold eachP; rw [List.length_map]
theorem lit_cells {w : World} {cs : Array Value} {t : TypeId} : ∀ j u, cs.toList[j]? = some u → (w.alloc (.cells cs t)).cell? ((⟨w.heap.size, 0, none⟩ : Addr).add j) = some u := by
  intro j u hu
  rw [Addr.add_lit, Nat.zero_add, cell_of_blk (alloc_new w (.cells cs t)) j]
  simpa using hu
/-- what stands while the pairs come -/
structure Sp (w : World) (vs : Value) (S : List Pr) (V : World) : Prop where
  b3 : Boxed V (w.heap.size + 1) 47 vs
  row : V.ownsRow w.heap.size 51 2 vs S.length (S.flatMap encP)
  fr : Fr (fun _ => False) w V
theorem Sp.turn {w A B : World} {vs : Value} {S : List Pr} (h : Sp w vs S A) {row : Option Nat} (hg : A.grownBy B row) (hr : ∀ r, row = some r → w.heap.size ≤ r ∧ ∃ o : Obj, A.heap[r]? = some o ∧ o.isCells = false) : Sp w vs S B := by
  have hne : ∀ k cs t m, A.heap[k]? = some (.cells cs t m) → some k ≠ row := by
    intro k cs t m hk e
    obtain ⟨_, o, ho, hc⟩ := hr k e.symm
    rw [hk] at ho
    cases ho
    cases hc
  refine ⟨h.b3.kept hg (hne _ _ _ _ h.b3), Ds.own_same h.row fun g hgv => ?_, h.fr.wide (Fr.of_grownBy hg) (fun i hi => .inr (hr i hi).1)⟩
  obtain ⟨_, hl, cs, hc⟩ := Ds.own_blk h.row hgv
  exact hg.block g hl (hne g _ _ _ hc)
theorem Sp.quiet {w A B : World} {vs : Value} {S : List Pr} (h : Sp w vs S A) (hf : Fr (fun _ => False) A B) : Sp w vs S B :=
  h.turn (row := none) ⟨hf.os, hf.tape, hf.output, hf.size, fun k hk _ => hf.block k hk (fun h => h)⟩ (fun r e => by cases e)
theorem Sp.app {w A A1 w' : World} {vs v' : Value} {S : List Pr} {e0 : Pr} (h : Sp w vs S A) (hA : Fr (fun _ => False) A A1)
    (hr : w'.ownsRow w.heap.size 51 2 v' (S.length + 1) (S.flatMap encP ++ encP e0)) (hg : A1.grownBy w' vs.ownBlock) :
    Sp w v' (S ++ [e0]) (w'.setCell ⟨w.heap.size + 1, 0, none⟩ v') ∧ Fr (fun k => k = w.heap.size + 1 ∨ vs.ownBlock = some k) A (w'.setCell ⟨w.heap.size + 1, 0, none⟩ v') ∧ w'.cell? ⟨w.heap.size + 1, 0, none⟩ = some vs ∧ w'.frozen? ⟨w.heap.size + 1, 0, none⟩ = false := by
  have h1 := h.quiet hA
  have k3 := h1.b3.kept hg (h1.b3.not_row (by decide) h1.row)
  have hgf := Fr.of_grownBy hg
  have hset := Fr.setCell w' ⟨w.heap.size + 1, 0, none⟩ v'
  refine ⟨⟨k3.set v', ?_, ?_⟩, ?_, k3.cell, k3.frozen⟩
  · rw [List.length_append, List.flatMap_append, List.flatMap_singleton]
    exact Ds.own_same hr fun g hgv => hset.block g (Ds.own_blk hr hgv).2.1 (fun e => k3.not_row (by decide) hr (by rw [← show g = w.heap.size + 1 from e]; exact hgv.symm))
  · exact ((h1.fr.wide hgf (fun i hi => .inr (Ds.own_blk h1.row hi).1)).wide hset (fun i hi => .inr (by dsimp only at hi; omega)))
  · exact ((hA.mono (T := fun k => k = w.heap.size + 1 ∨ vs.ownBlock = some k) (fun _ h => h.elim)).wide hgf (fun i hi => .inl (.inr hi))).wide hset (fun i hi => .inl (.inl hi))
theorem Sp.others {w A B : World} {vs : Value} {S : List Pr} (h : Sp w vs S A) (hf : Fr (fun k => k = w.heap.size + 1 ∨ vs.ownBlock = some k) A B) : KeepsOthers A B := by
  refine ⟨hf.size, fun k o hk hc => (hf.block k (Array.getElem?_eq_some_iff.1 hk).1 (fun hw => ?_)).trans hk⟩
  have hcell : ∃ cs t m, A.heap[k]? = some (.cells cs t m) := by
    rcases hw with rfl | hw
    · exact ⟨_, _, _, h.b3⟩
    · obtain ⟨_, _, cs, hb⟩ := Ds.own_blk h.row hw; exact ⟨_, _, _, hb⟩
  obtain ⟨cs, t, m, hb⟩ := hcell
  rw [hk] at hb
  cases hb
  cases hc
theorem Sp.keep {w A B : World} {vs : Value} {S : List Pr} (h : Sp w vs S A) (hf : Fr (fun k => k = w.heap.size + 1 ∨ vs.ownBlock = some k) A B) {n0 : Nat} (hn : w.heap.size + 1 < n0) : EachK n0 A B := by
  refine ⟨Keep.of_fr hf fun k cs t m hs hk hw => ?_, Late.of_others _ (h.others hf)⟩
  rcases hw with rfl | hw
  · have := hs.1; omega
  · obtain ⟨_, _, cs', hb⟩ := Ds.own_blk h.row hw
    rw [hk] at hb
    cases hb
    rcases hs.2 with e | e | e | e <;> exact absurd e (by decide)
end Go.Proofs.Ytgomilodeaafdaa
namespace Go.Proofs.Ytgomilodeaafdaa
open Go.RowKit Go.Shelf Ds
attribute [local go_sem] Oper.semAt_some
theorem infoPr : (Try.prog.info? 51).map (fun i => (i.zero, i.size, i.bytes)) = some (some (.agg #[.string ⟨#[]⟩, .string ⟨#[]⟩]), 2, 32) := by kernel_rfl
def PairsPost (w : World) (A : List Pr) (e : Ending) (w' : World) : Prop :=
  ∃ (v : Value) (l : List Pr), e = .returned v ∧ l.Perm A ∧ l.Pairwise ltP ∧ w'.ownsRow w.heap.size 51 2 v A.length (l.flatMap encP) ∧ Fr (fun _ => False) w w'
set_option maxRecDepth 100000 in
set_option maxHeartbeats 4000000 in
theorem pairs_any (w : World) (B : Nat) (F : Nat → Prop) (r d : Nat) (M : DM) (A : List Pr) (h : RecF w B F r d M A) :
    Calls Try.prog 25 #[.pointer (some ⟨r, 0, none⟩)] w (PairsPost w A) := by
  refine (callsIn_wide (n := 8)).1 ?_
  have H := Lib.hid h
  have hn := h.len
  have c1 := h.dict0
  have hrl := (h.lt r h.fr).2
  have HLN := Lib.hid (recLen_any w B F r d M A h)
  obtain ⟨i0, hi, hz0, hz1, hz2⟩ := info_parts infoPr
  have HI := Lib.hid hi
  have HZ0 := Lib.hid hz0
  have HZ1 := Lib.hid hz1
  have HZ2 := Lib.hid hz2
  obtain ⟨cs, hcs, hmk⟩ : ∃ cs : Array Value, cs.size = A.length * 2 ∧ ∀ w : World, (Instr.makeSlice 47 (.int .i64 0) (.int .i64 A.length)).run Try.prog w = .ok (.slice (some ⟨w.heap.size, 0, none⟩) 0 A.length) (w.alloc (.cells cs 51)) := by
    refine ⟨madeCells (Value.agg #[.string ⟨#[]⟩, .string ⟨#[]⟩]).cells (A.length * i0.size), by rw [size_madeCells, hz1], fun w => ?_⟩
    exact run_make (P := Try.prog) (w := w) 47 51 i0 (.agg #[.string ⟨#[]⟩, .string ⟨#[]⟩]) Try.underlying47 hi hz0 .i64 .i64 0 A.length (by omega) (by omega) (by rw [hz2]; omega) (by omega)
  have HCS := Lib.hid hcs
  clear h hi hz0 hz1 hz2 hcs
  refine callsIn_of_wp_marks Try.func25 rfl trivial ?_ rfl
  simp only [Try.ntmps25, List.size_toArray, List.length_cons, List.length_nil, Nat.reduceAdd, Nat.reduceSub, Array.replicate_succ, Array.replicate_zero, List.push_toArray, List.append_toArray, List.nil_append, List.cons_append]
  gi_wp2_with fail
  refine ⟨trivial, (callsIn_wide.2 HLN.out).mono ?_⟩
  rintro e w' ⟨rfl, rfl⟩
  gi_wp2_with fail
  refine ⟨trivial, (each_in _ 7 trivial rfl _ _).mono ?_⟩
  rintro e w' ⟨rfl, rfl⟩
  gi_wp2_with fail
  obtain ⟨Wl, hWl⟩ : ∃ Wl, ((w.alloc (.cells cs 51)).alloc (.cells #[.slice (some ⟨w.heap.size, 0, none⟩) 0 A.length] 47)).alloc (.cells #[.pointer (some ⟨d, 0, none⟩)] 135) = Wl := ⟨_, rfl⟩
  have bN := Boxed.new ((w.alloc (.cells cs 51)).alloc (.cells #[.slice (some ⟨w.heap.size, 0, none⟩) 0 A.length] 47)) 135 (.pointer (some ⟨d, 0, none⟩))
  have hS0 : Sp w (.slice (some ⟨w.heap.size, 0, none⟩) 0 A.length) [] Wl := by
    have b3 := Boxed.new (w.alloc (.cells cs 51)) 47 (.slice (some ⟨w.heap.size, 0, none⟩) 0 A.length)
    have hrow := World.ownsRow_made (base := w.heap.size) (e := 51) (size := 2) w cs A.length (by omega) (by unfold maxLen; omega) HCS.out
    simp only [World.size_alloc] at b3 hrow
    rw [← hWl]
    exact ⟨b3.alloc _, (hrow.alloc _).alloc _, ((Fr.alloc (fun _ => False) w _).thenAlloc _).thenAlloc _⟩
  simp only [World.size_alloc] at bN
  rw [hWl] at bN
  rw [hWl]
  have hsz : w.heap.size + 3 = Wl.heap.size := by rw [← hWl]; simp
  have HSZ := Lib.hid hsz
  have HS0 := Lib.hid hS0
  have HAl : Hid (Al d (w.heap.size + 1 + 1) M Wl) := ⟨H.out.dat.fr hS0.fr (fun _ _ h => h), bN⟩
  have hN : (opn M).flatten.length = A.length := eachP_len H.out.like
  have HN := Lib.hid hN
  clear hWl bN hS0 hmk hsz hN HCS
  refine wpIn_rangeV rfl (by decide) (gf := 157) (lb := #[.pointer (some ⟨w.heap.size + 1 + 1, 0, none⟩)]) rfl trivial (enters_of Try.func157 (by kernel_rfl) rfl)
    (each_stops _ (8 - 1) trivial trivial trivial rfl (by decide) (w.heap.size + 1 + 1) d M Wl.heap.size Wl (Nat.le_refl _) HAl.out (eachP_val H.out.like) (by rw [H.out.like.count]; omega))
    (fun _ _ _ h k => h.trans k) (fun V l r r' _ h => EachK.loop _ V l r r' h) (Below.refl _ _) (fun _ => rfl)
    (fun pre V => ∃ vs, Sp w vs (pre.map toPr) V)
    (fun _ _ _ => False)
    ?own (fun _ _ _ _ _ hs _ _ => hs) ⟨_, HS0.out⟩
    (fun x => { tmps := #[.pointer (some ⟨r, 0, none⟩), undef, .slice none 0 0, .pointer (some ⟨w.heap.size + 1, 0, none⟩), .string x.key, x.val.head?.getD undef, .pointer (some ⟨r, 0, none⟩), .bool false, .pointer (some ⟨r, 0, none⟩), .int .i64 A.length, .slice (some ⟨w.heap.size, 0, none⟩) 0 A.length, .pointer (some ⟨r, 0, none⟩), .pointer (some ⟨r, 0, none⟩), .pointer (some ⟨r, 1, none⟩), .pointer (some ⟨d, 0, none⟩), .func (.func 157) #[] #[.pointer (some ⟨w.heap.size + 1 + 1, 0, none⟩)], .string x.key, x.val.head?.getD undef, undef, undef, undef, undef, undef, undef, undef, undef, undef], defers := [] }) ?assign ?body ?done ?stop
  case own =>
    rintro pre A' B' row ⟨vs, hS⟩ hg hr
    exact ⟨vs, hS.turn hg fun r e => ⟨by have := (hr r e).1; have := HSZ.out; omega, (hr r e).2⟩⟩
  case assign =>
    intro lr x V K hK
    unfold etE
    gi_wp2
    exact hK
  case body =>
    rintro lr pre x V ⟨vs, hS⟩ hv
    have hx : x ∈ (opn M).flatten := hv.subset (by simp)
    obtain ⟨xx, hxv⟩ := eachP_val H.out.like x hx
    have hen : Hid (toPr x = (x.key, xx)) := by show _ = _; unfold toPr valS; rw [hxv]
    have hlen : (pre ++ [x]).length ≤ A.length := by rw [← HN.out]; exact hv.length_le
    rw [List.length_append] at hlen
    have hpl : pre.length + 1 ≤ A.length := hlen
    have hval : x.val.head?.getD undef = .string xx := by rw [hxv]; rfl
    have hrow := hS.row
    rw [List.length_map] at hrow
    obtain ⟨va, vc, rfl⟩ := ow_sliceN hrow
    have HROW := Lib.hid hrow
    have HS := Lib.hid hS
    have hcb := hS.b3.cell
    have hb3 := hS.b3.lt
    try dsimp only
    rw [hval]
    obtain ⟨K0, hK0⟩ : ∃ k, pre.length = k := ⟨_, rfl⟩
    rw [hK0] at HROW hcb HS hpl
    have HK0 := Lib.hid hK0
    have HFR : Hid (w.heap.size ≤ V.heap.size) := hS.fr.size
    have g1 : ¬ (A.length : Int) < (K0 : Int) + 1 := by omega
    have g2 : ¬ A.length < K0 + 1 := by omega
    clear hS hx hxv hlen hval hrow hK0 hv
    gi_wp2_with (gi_at_builtin; refine wpListIn_append_own _ rfl (.tmp 18) (.tmp 22) 47 rfl w.heap.size 51 i0 (.agg #[.string ⟨#[]⟩, .string ⟨#[]⟩]) 2 32 Try.underlying47 HI.out HZ0.out HZ1.out HZ2.out rfl (by decide) _ K0 _ rfl (HROW.out.alloc _) ⟨V.heap.size, 0, none⟩ 1 1 [.string x.key, .string xx] rfl rfl lit_cells (by simp [Value.oneCell']) (by unfold maxLen; omega) (by omega) (by have := HFR.out; simp; omega) ?_; intro v' w1 hown' hgrow _; obtain ⟨va', vc', rfl⟩ := ow_sliceN hown'; obtain ⟨q1, q2, q3, q4⟩ := HS.out.app (e0 := (x.key, xx)) (Fr.alloc (fun _ => False) V _) (by rw [List.length_map, HK0.out]; exact hown') hgrow; have Q1 := Lib.hid q1; have Q2 := Lib.hid q2; clear hown' hgrow q1 q2)
    refine ⟨HS.out.others Q2.out, HS.out.keep Q2.out (by have := HSZ.out; omega), .slice va' (K0 + 1) vc', ?_⟩
    rw [List.map_append, List.map_singleton, hen.out]
    exact Q1.out
  case done =>
    rintro D ys V hD rfl ⟨vs, hS⟩ hK
    have hperm := eachP_perm H.out.like
    have hSl : (eachP M).length = A.length := hperm.length_eq
    have hnd : ((eachP M).map (·.1)).Nodup := (hperm.map (·.1)).nodup_iff.2 H.out.like.nodup
    have hrow := hS.row
    rw [show ((opn M).flatten.map toPr).length = A.length from hSl] at hrow
    obtain ⟨sa, sc, rfl⟩ := ow_sliceN hrow
    have HROW : Hid (V.ownsRow w.heap.size 51 2 (.slice sa (eachP M).length sc) (eachP M).length ((eachP M).flatMap encP)) := by rw [hSl]; exact hrow
    have HSORT := Lib.hid (sortP_any V w.heap.size (.slice sa (eachP M).length sc) (eachP M) HROW.out (by rw [hSl]; omega) hnd)
    rw [hSl] at HSORT
    have HS : Hid (Sp w (.slice sa A.length sc) (eachP M) V) := hS
    have HK := Lib.hid hK
    have HSl := Lib.hid hSl
    have HPM := Lib.hid hperm
    have hcb := hS.b3.cell
    have hb3 := hS.b3.lt
    clear hS hK hrow hSl HS0 HAl hperm hnd
    gi_wp2_with fail
    refine ⟨trivial, (callsIn_wide.2 HSORT.out).mono ?_⟩
    rintro e V2 ⟨rfl, l, hl1, hl2, hl3, hl4⟩
    rw [HSl.out] at hl3
    have hnr : ¬ (Value.slice sa A.length sc).ownBlock = some (w.heap.size + 1) := fun e => HS.out.b3.not_row (by decide) HS.out.row e.symm
    have hcb2 : V2.cell? ⟨w.heap.size + 1, 0, none⟩ = some (.slice sa A.length sc) := hl4.cell hcb hnr
    have hDr : ¬ (Value.slice sa A.length sc).ownBlock = some D := fun e => by
      obtain ⟨_, _, cs', hb⟩ := Ds.own_blk HS.out.row e
      rw [HK.out] at hb
      cases hb
    have HD2 : Hid (V2.heap[D]? = some (.deferred (some []))) := (hl4.block D (Array.getElem?_eq_some_iff.1 HK.out).1 hDr).trans HK.out
    have HFF : Hid (Fr (fun _ => False) w V2) := HS.out.fr.wide hl4 (fun i hi => .inr (Ds.own_blk HS.out.row hi).1)
    have HL1 := Lib.hid (hl1.trans HPM.out)
    have HL2 := Lib.hid hl2
    have HL3 := Lib.hid hl3
    have hwD : w.heap.size ≤ D := by have := HSZ.out; omega
    clear hl1 hl2 hl3 hl4 hnr hDr hcb
    gi_wp2
    refine ⟨by simp, .inl ⟨_, _, rfl, run_takeDeferred HD2.out, ?_⟩⟩
    refine ⟨.slice sa A.length sc, ?_, ?_⟩
    · simp [results, Try.f25, go_sem]
    · exact ⟨_, l, rfl, HL1.out, HL2.out, ow_fr HL3.out (Fr.of_grownBy (grownBy_putObj' _ D (.deferred none))) (fun g hg e => by cases e; exact absurd (Ds.own_blk HL3.out hg).2.2 (by rintro ⟨cs', hc⟩; rw [HD2.out] at hc; cases hc)), HFF.out.wide (Fr.of_grownBy (grownBy_putObj' _ D (.deferred none))) (fun i hi => .inr (by cases hi; exact hwD))⟩
  case stop =>
    rintro D c pre V _ _ h _
    exact h.elim
end Go.Proofs.Ytgomilodeaafdaa
namespace Go.Proofs.Ytgomilodeaafdaa
open Go.RowKit Go.Shelf Ds
attribute [local go_sem] Oper.semAt_some
theorem sorted_one {l l' : List Pr} (hp : l.Perm l') (h : l.Pairwise ltP) (h' : l'.Pairwise ltP) : l = l' :=
  hp.eq_of_pairwise (fun a b _ _ h1 h2 => absurd (List.lt_trans h1 h2) (List.lt_irrefl _)) h h'
/-- who is sampled -/
def sampV (l : List Pr) (n : UInt64) : Value := if l = [] then .tuple #[.string ⟨#[]⟩, .bool false] else .tuple #[.string ((l[n.toNat % l.length]?).getD (⟨#[]⟩, ⟨#[]⟩)).1, .bool true]
set_option maxRecDepth 100000 in
set_option maxHeartbeats 1000000 in
theorem sample_any (w : World) (B : Nat) (F : Nat → Prop) (r d : Nat) (M : DM) (A : List Pr) (n : UInt64) (h : RecF w B F r d M A) (l : List Pr) (hp : l.Perm A) (hs : l.Pairwise ltP) :
    Calls Try.prog 23 #[.pointer (some ⟨r, 0, none⟩), .int .u64 (wd n)] w fun e w' => e = .returned (sampV l n) ∧ Fr (fun _ => False) w w' := by
  have HP := Lib.hid (pairs_any w B F r d M A h)
  have HPM := Lib.hid hp
  have HSO := Lib.hid hs
  have hll := hp.length_eq
  have hal := h.len
  obtain ⟨nn, hnn⟩ : ∃ x, n.toNat = x := ⟨_, rfl⟩
  have hw : wd n = (nn : Int) := congrArg Nat.cast hnn
  have hnl : nn < 18446744073709551616 := by rw [← hnn]; exact n.toNat_lt
  have hsv : sampV l n = if l = [] then .tuple #[.string ⟨#[]⟩, .bool false] else .tuple #[.string ((l[nn % l.length]?).getD (⟨#[]⟩, ⟨#[]⟩)).1, .bool true] := by unfold sampV; rw [hnn]
  have HSV := Lib.hid hsv
  rw [hw]
  clear h hp hs hw hsv hnn
  go_enter Try.func23, Try.ntmps23
  go_wp2_with fail
  refine HP.out.mono ?_
  rintro e w1 ⟨v, l', rfl, q1, q2, q3, q4⟩
  obtain rfl : l' = l := sorted_one (q1.trans HPM.out.symm) q2 HSO.out
  obtain ⟨va, vc, rfl⟩ := ow_sliceN q3
  rw [← hll] at q3 ⊢
  have Q3 := Lib.hid q3
  have Q4 := Lib.hid q4
  have hl6 : l'.length ≤ 1048576 := by omega
  clear q1 q2 q3 q4 HP hll
  by_cases h0 : l'.length = 0
  · rw [if_pos (List.length_eq_zero_iff.1 h0)] at HSV
    rw [h0]
    clear h0
    go_wp2
    go_ret2
    exact ⟨by rw [HSV.out]; rfl, Q4.out⟩
  · rw [if_neg (fun e => h0 (by rw [e]; rfl))] at HSV
    have hpos : 0 < l'.length := Nat.pos_of_ne_zero h0
    obtain ⟨k, hk⟩ : ∃ k, nn % l'.length = k := ⟨_, rfl⟩
    have hkl : k < l'.length := by rw [← hk]; exact Nat.mod_lt _ hpos
    rw [hk, List.getElem?_eq_getElem hkl] at HSV
    have hc := (RdC.of_owns Q3.out).at (by rw [flat_size encP 2 (fun _ => rfl)]; omega)
    obtain ⟨g, off, rfl, hcell⟩ := hc
    have hc1 := hcell (k * 2 + 0) (.string (l'[k]).1) (by rw [flatAt encP 2 (fun _ => rfl) l' k 0 hkl (by decide)]; rfl)
    obtain ⟨x, hx⟩ : ∃ x, (l'[k]).1 = x := ⟨_, rfl⟩
    rw [hx, Nat.add_zero] at hc1
    have hsv2 : sampV l' n = .tuple #[.string x, .bool true] := by rw [HSV.out]; show _ = _; rw [← hx]; rfl
    have HS2 := Lib.hid hsv2
    have e1 : IntKind.u64.wrap (l'.length : Int) = (l'.length : Int) := IntWalk.u64_in _ (by omega)
    have e2 : IntKind.u64.wrap ((nn : Int) % (l'.length : Int)) = (k : Int) := by
      have : (nn : Int) % (l'.length : Int) = ((nn % l'.length : Nat) : Int) := rfl
      rw [this, hk, IntWalk.u64_in _ (by omega)]
    rw [← hk] at hc1
    have b0 : (0 : Int) ≤ (nn : Int) % (l'.length : Int) := by omega
    have b1 : (nn : Int) % (l'.length : Int) < (l'.length : Int) := by omega
    clear hsv2 HSV hcell hx hk e2
    go_wp2
    go_ret2
    exact ⟨by rw [HS2.out]; rfl, Q4.out⟩
theorem recScan_any (w : World) (B : Nat) (F : Nat → Prop) (r d : Nat) (M : DM) (A : List Pr) (c : UInt64) (count : Int) (h : RecF w B F r d M A) (hc : InI count) :
    Calls Try.prog 33 #[.pointer (some ⟨r, 0, none⟩), .int .u64 (wd c), .int .i64 count] w (ScanPost w (scanK M c.toNat count)) := by
  have c1 := h.dict0
  have HN := Lib.hid (next_any w d M c count h.dat (by rw [h.like.count]; have := h.len; omega) hc.1 hc.2)
  obtain ⟨c0, hc0⟩ : ∃ c0, wd c = c0 := ⟨_, rfl⟩
  rw [hc0] at HN ⊢
  clear h hc0
  go_enter Try.func33, Try.ntmps33
  go_wp2_with fail
  refine HN.out.mono ?_
  rintro e w1 ⟨v, rfl, hq⟩
  go_wp2_with fail
  go_ret2
  exact ⟨v, rfl, hq⟩
theorem recLen_nil (w : World) : Calls Try.prog 26 #[.pointer none] w fun e w' => e = .returned (.int .i64 0) ∧ w = w' := by
  go_enter Try.func26, Try.ntmps26
  go_wp2
  go_ret
  exact ⟨rfl, rfl⟩
theorem recGet_nil (k : ByteArray) (w : World) : Calls Try.prog 31 #[.pointer none, .string k] w fun e w' => e = .returned (.tuple #[.string ⟨#[]⟩, .bool false]) ∧ w = w' := by
  go_enter Try.func31, Try.ntmps31
  go_wp2
  go_ret2
  exact ⟨rfl, rfl⟩
theorem recSet_nil (k s : ByteArray) (w : World) : Calls Try.prog 24 #[.pointer none, .string k, .string s] w fun e w' => e = .returned (.tuple #[.bool false, .int .i64 1]) ∧ w = w' := by
  go_enter Try.func24, Try.ntmps24
  go_wp2
  go_ret2
  exact ⟨rfl, rfl⟩
theorem recDel_nil (k : ByteArray) (w : World) : Calls Try.prog 29 #[.pointer none, .string k] w fun e w' => e = .returned (.bool false) ∧ w = w' := by
  go_enter Try.func29, Try.ntmps29
  go_wp2_with fail
  refine (recGet_nil k w).mono ?_
  rintro e w' ⟨rfl, rfl⟩
  go_wp2_with fail
  go_ret
  exact ⟨rfl, rfl⟩
theorem recCost_nil (w : World) : Calls Try.prog 32 #[.pointer none] w fun e w' => e = .returned (.int .i64 0) ∧ w = w' := by
  go_enter Try.func32, Try.ntmps32
  go_wp2
  go_ret
  exact ⟨rfl, rfl⟩
theorem recScan_nil (c count : Int) (w : World) : Calls Try.prog 33 #[.pointer none, .int .u64 c, .int .i64 count] w fun e w' => e = .returned (.tuple #[.int .u64 0, .slice none 0 0]) ∧ w = w' := by
  go_enter Try.func33, Try.ntmps33
  go_wp2
  go_ret2
  exact ⟨rfl, rfl⟩
set_option maxRecDepth 100000 in
theorem pairs_nil (w : World) : Calls Try.prog 25 #[.pointer none] w fun e w' => e = .returned (.slice none 0 0) ∧ w = w' := by
  refine (callsIn_wide (n := 8)).1 ?_
  refine callsIn_of_wp_marks Try.func25 rfl trivial ?_ rfl
  simp only [Try.ntmps25, List.size_toArray, List.length_cons, List.length_nil, Nat.reduceAdd, Nat.reduceSub, Array.replicate_succ, Array.replicate_zero, List.push_toArray, List.append_toArray, List.nil_append, List.cons_append]
  gi_wp2
  refine ⟨.slice none 0 0, ?_, rfl, rfl⟩
  simp [results, Try.f25, go_sem]
theorem sample_nil (n : Int) (w : World) : Calls Try.prog 23 #[.pointer none, .int .u64 n] w fun e w' => e = .returned (.tuple #[.string ⟨#[]⟩, .bool false]) ∧ w = w' := by
  go_enter Try.func23, Try.ntmps23
  go_wp2_with fail
  refine (pairs_nil w).mono ?_
  rintro e w' ⟨rfl, rfl⟩
  go_wp2_with fail
  go_ret2
  exact ⟨rfl, rfl⟩
end Go.Proofs.Ytgomilodeaafdaa
namespace Go.Proofs.Ytgomilodeaafdaa
open Go.RowKit
/-- a pair of a row -/
theorem pr_at {w : World} {a : Option Addr} {n cap : Nat} {l : List Pr} (h : RdC w 2 (.slice a n cap) n (l.flatMap encP)) (k : Nat) (hk : k < l.length) :
    ∃ g off, a = some ⟨g, off, none⟩ ∧ w.cell? ⟨g, off + k * 2, none⟩ = some (.string (l[k]).1) ∧ w.cell? ⟨g, off + k * 2 + 1, none⟩ = some (.string (l[k]).2) := by
  have hf := fun j hj => flatAt encP 2 (fun _ => rfl) l k j hk hj
  obtain ⟨g, off, rfl, hc⟩ := h.at (by rw [flat_size encP 2 (fun _ => rfl)]; omega)
  refine ⟨g, off, rfl, ?_, ?_⟩
  · exact hc (k * 2 + 0) _ (by rw [hf 0 (by decide)]; rfl)
  · rw [Nat.add_assoc]; exact hc (k * 2 + 1) _ (by rw [hf 1 (by decide)]; rfl)
theorem fits_any (w : World) (s : ByteArray) (h : s.size ≤ maxLen) : Calls Try.prog 28 #[.string s] w fun e w' => e = .returned (.bool (decide (s.size ≤ 1048576))) ∧ w = w' := by
  unfold maxLen at h
  obtain ⟨b, hb⟩ : ∃ b, decide (s.size ≤ 1048576) = b := ⟨_, rfl⟩
  have g1 : decide ((s.size : Int) ≤ 1048576) = b := by rw [← hb]; exact decide_eq_decide.2 (by omega)
  rw [hb]
  clear hb
  go_enter Try.func28, Try.ntmps28
  go_wp2
  go_ret
  exact ⟨rfl, rfl⟩
set_option maxRecDepth 100000 in
theorem find_any (w : World) (v : Value) (l : List Pr) (s : ByteArray) (h : RdC w 2 v l.length (l.flatMap encP)) :
    Calls Try.prog 27 #[v, .string s] w fun e w' => e = .returned (.int .i64 (fdI l s)) ∧ w = w' := by
  have hm := h.len
  unfold maxLen at hm
  have H1 := Lib.hid h
  obtain ⟨-, a1, c1, rfl, -⟩ := h
  go_enter Try.func27, Try.ntmps27
  go_wp2
  go_loopw [5] (fun i wr => ∃ k : Nat, i = .int .i64 k ∧ k ≤ l.length ∧ Hid (w = wr) ∧ Hid (∀ j e, j < k → l[j]? = some e → e.1 ≠ s)) (fun i _ => l.length - (intOf i).toNat)
  case atStart => exact ⟨0, rfl, by omega, rfl, fun j e hj => absurd hj (Nat.not_lt_zero _)⟩
  case round =>
    obtain ⟨k, rfl, hk, HW, HE⟩ := hrel
    by_cases hlt : k < l.length
    · obtain ⟨g1, o1, rfl, c1, c2⟩ := pr_at H1.out k hlt
      rw [HW.out] at c1
      obtain ⟨x, hx⟩ : ∃ x, (l[k]).1 = x := ⟨_, rfl⟩
      rw [hx] at c1
      have HX := Lib.hid hx
      clear hx c2
      by_cases hxy : x = s
      · have hq : (x.toList == s.toList) = true := by rw [str_beq]; simpa using hxy
        have hin : fdI l s = (k : Int) := fdI_some (fdG_of (x := (l[k]).2) (by rw [List.getElem?_eq_getElem hlt, ← hxy, ← HX.out]) HE.out)
        have HIN := Lib.hid hin
        clear hxy hin
        go_wp2
        go_ret
        exact ⟨by rw [HIN.out]; rfl, HW.out⟩
      · have hq : (x.toList == s.toList) = false := by rw [str_beq]; simpa using hxy
        have hts : Hid (∀ j e, j < k + 1 → l[j]? = some e → e.1 ≠ s) := by
          intro j e hj he
          by_cases hjk : j = k
          · subst hjk
            rw [List.getElem?_eq_getElem hlt] at he
            cases he
            rw [HX.out]
            exact hxy
          · exact HE.out j e (by omega) he
        clear hxy
        go_wp2
        go_roundw
        case rel => exact ⟨k + 1, by go_num, by omega, HW, hts⟩
        case measure => simp [intOf]; omega
    · obtain rfl : k = l.length := by omega
      have hin : fdI l s = -1 := fdI_none (fdG_no fun e he => by
        obtain ⟨j, hj, rfl⟩ := List.getElem_of_mem he
        exact HE.out j _ hj (List.getElem?_eq_getElem hj))
      have HIN := Lib.hid hin
      clear hin
      go_wp2
      go_ret
      exact ⟨by rw [HIN.out]; rfl, HW.out⟩
/-- a row of pairs of its own -/
abbrev RowP (B : Nat) (w : World) (v : Value) (S : List Pr) : Prop := w.ownsRow B 51 2 v S.length (S.flatMap encP)
theorem rowP_app {B : Nat} {w : World} {v : Value} {S K : List Pr} (h : w.ownsRow B 51 2 v (S.length + K.length) (S.flatMap encP ++ K.flatMap encP)) : RowP B w v (S ++ K) := by
  show World.ownsRow _ _ _ _ _ _ _
  rw [List.length_append, List.flatMap_append]
  exact h
theorem onesP (l : List Pr) : ∀ u ∈ l.flatMap encP, u.oneCell' = true := by
  intro u hu
  obtain ⟨x, _, hx⟩ := List.mem_flatMap.1 hu
  simp only [encP, List.mem_cons, List.not_mem_nil, or_false] at hx
  rcases hx with rfl | rfl <;> rfl
set_option maxRecDepth 100000 in
set_option maxHeartbeats 1000000 in
theorem without_any (w : World) (v : Value) (l : List Pr) (at_ : Int) (h : RdC w 2 v l.length (l.flatMap encP)) (hl : l.length ≤ 1099511627776) :
    Calls Try.prog 30 #[v, .int .i64 at_] w fun e w' => ∃ v, e = .returned v ∧ RowP w.heap.size w' v (dropI l at_) ∧ Below w.heap.size w w' := by
  have H1 := Lib.hid h
  obtain ⟨-, a1, c1, rfl, -⟩ := h
  obtain ⟨i0, hi, hz0, hz1, hz2⟩ := info_parts infoPr
  have HI := Lib.hid hi
  have HZ0 := Lib.hid hz0
  have HZ1 := Lib.hid hz1
  have HZ2 := Lib.hid hz2
  have HBL : Hid (Below w.heap.size w w) := Below.refl _ _
  clear hi hz0 hz1 hz2
  go_enter Try.func30, Try.ntmps30
  go_wp2
  go_loopw [5, 6] (fun v i wr => ∃ k : Nat, i = .int .i64 k ∧ k ≤ l.length ∧ Hid (RowP w.heap.size wr v (dropI (l.take k) at_)) ∧ Hid (Below w.heap.size w wr)) (fun _ i _ => l.length - (intOf i).toNat)
  case atStart => exact ⟨0, rfl, by omega, (show RowP _ _ _ (dropI [] at_) from by unfold dropI; split <;> exact World.ownsRow_nil _ _ _ _), HBL⟩
  case round =>
    obtain ⟨k, rfl, hk, HR, HL⟩ := hrel
    obtain ⟨v, rfl⟩ : ∃ v, v = u5 := ⟨_, rfl⟩
    obtain ⟨wo, rfl⟩ : ∃ wo, wo = wr := ⟨_, rfl⟩
    clear HBL
    by_cases hlt : k < l.length
    · obtain ⟨g1, o1, rfl, c1, c2⟩ := pr_at (H1.out.below HL.out) k hlt
      obtain ⟨x, hx⟩ : ∃ x, (l[k]) = x := ⟨_, rfl⟩
      rw [hx] at c1 c2
      have hsn := dropI_snoc l at_ k hlt
      rw [hx] at hsn
      have HSN := Lib.hid hsn
      have hk1 : (dropI (l.take k) at_).length ≤ 1099511627776 := Nat.le_trans (dropI_len _ _) (by rw [List.length_take]; omega)
      obtain ⟨S, hS⟩ : ∃ S, dropI (l.take k) at_ = S := ⟨_, rfl⟩
      rw [hS] at HR HSN hk1
      have hr0 := HR.out
      obtain ⟨va, vc, rfl⟩ := ow_sliceN hr0
      obtain ⟨x1, x2⟩ := x
      dsimp only at c1 c2
      clear hx hsn hS hr0
      by_cases h2 : (k : Int) = at_
      · have g2 : ((k : Int) != at_) = false := by rw [← Bool.not_eq_true, bne_iff_ne]; exact fun e => e h2
        rw [if_pos h2, List.append_nil] at HSN
        clear h2
        go_wp2
        go_roundw
        case rel => exact ⟨k + 1, by go_num, by omega, by rw [HSN.out]; exact HR, HL⟩
        case measure => simp [intOf]; omega
      · have g2 : ((k : Int) != at_) = true := by rw [bne_iff_ne]; exact h2
        rw [if_neg h2] at HSN
        have HA2 := Lib.hid (HL.out.alloc HL.out.size (.cells #[.string x1, .string x2] 51))
        clear h2
        go_wp2_with (at_builtin; refine wpl_append rfl (.tmp 16) (.tmp 21) 47 rfl w.heap.size 51 i0 (.agg #[.string ⟨#[]⟩, .string ⟨#[]⟩]) 2 32 Try.underlying47 HI.out HZ0.out HZ1.out HZ2.out rfl (by decide) _ S.length _ rfl (HR.out.alloc _) _ 1 [.string x1, .string x2] rfl (RdC.of_owns (World.ownsRow_lit (e := 51) wo #[.string x1, .string x2] 1 (Nat.le_refl _) (by decide) rfl)) (by simp [Value.oneCell']) (by unfold maxLen; omega) (by omega) HA2.out.size ?_; intro v' w8 hown hgrow; have HO8 := Lib.hid hown; have HG8 := Lib.hid hgrow; clear hown hgrow)
        go_roundw
        case rel =>
          refine ⟨k + 1, by go_num, by omega, ?_, ?_⟩
          · rw [HSN.out]; exact rowP_app (K := [(x1, x2)]) HO8.out
          · exact HA2.out.grown HG8.out HA2.out.size (fun g hg => (HR.out.lt g hg).1)
        case measure => simp [intOf]; omega
    · obtain rfl : k = l.length := by omega
      rw [List.take_length] at HR
      go_wp2
      go_ret
      exact ⟨_, rfl, HR.out, HL.out⟩
end Go.Proofs.Ytgomilodeaafdaa
namespace Go.Proofs.Ytgomilodeaafdaa
open Go.ChangeShapes Go.WideShapes Go.ChangeAt Go.RowKit Go.Deep

section
variable {H : Type} {enc : TypeId × Value → H} {P : Program} {w : World} {base : Nat} {spare : Nat → Bool} {held : Bool}
theorem struct_read {t : TypeId} {fs : Array Field} {fuel : Nat} {cs : List Value} {x : DataW H × List MemPlace} (he : P.underlying t = some (.struct fs)) (hone : oneCellFields P fs = true) (hC : P.cellsOf t = fs.size)
    (h : DataW.trod enc P w base spare held fuel t cs = some x) :
    cs.length = fs.size ∧ ∀ (j : Nat) (f : Field), fs[j]? = some f → ∃ (v : Value) (n : Nat) (y : DataW H × List MemPlace), cs[j]? = some v ∧ DataW.trod enc P w base spare held n f.type [v] = some y := by
  obtain ⟨ys, n', hn', hy, hlen, hyl, hf⟩ := DataW.trod_struct he h
  rw [hC] at hlen
  refine ⟨hlen, fun j f hj => ?_⟩
  obtain ⟨ho, hk⟩ := hone_of hone j f hj
  have hjl : j < fs.size := (Array.getElem?_eq_some_iff.1 hj).1
  have h1 := hf j f hj
  rw [ho, hk] at h1
  have hone' : (cs.drop j).take 1 = [cs[j]'(by omega)] := by
    rw [List.drop_eq_getElem_cons (by omega)]
    rfl
  rw [hone'] at h1
  have hys : ys[j]? = some (ys[j]'(by omega)) := List.getElem?_eq_getElem (by omega)
  exact ⟨_, n', _, List.getElem?_eq_getElem (by omega), h1.trans hys⟩
end
structure St9 where
  do_ : Int
  who : Int
  field : ByteArray
  s : ByteArray
  n : UInt64
  count : Int
abbrev St9B := { o : St9 // o.field.size ≤ maxLen ∧ o.s.size ≤ maxLen ∧ InI o.count }
def st9 (o : St9B) : List Value := [.int .i64 o.1.do_, .int .i64 o.1.who, .string o.1.field, .string o.1.s, .int .u64 (wd o.1.n), .int .i64 o.1.count]
theorem st9_len (o : St9B) : (st9 o).length = 6 := rfl
section
variable {H : Type} {enc : TypeId × Value → H} {w : World} {base : Nat} {held : Bool}
theorem st9_read (n : Nat) (l : List Value) (y : DataW H × List MemPlace) (h : DataW.trod enc Try.prog w base (fun _ => true) held n 55 l = some y) : ∃ x : St9B, l = st9 x := by
  obtain ⟨hl, hf⟩ := struct_read Try.underlying55 (by kernel_rfl) (by kernel_rfl) h
  match l, hl with
  | [c0, c1, c2, c3, c4, c5], _ =>
    obtain ⟨v0, n0, y0, e0, t0⟩ := hf 0 _ rfl
    obtain ⟨v1, n1, y1, e1, t1⟩ := hf 1 _ rfl
    obtain ⟨v2, n2, y2, e2, t2⟩ := hf 2 _ rfl
    obtain ⟨v3, n3, y3, e3, t3⟩ := hf 3 _ rfl
    obtain ⟨v4, n4, y4, e4, t4⟩ := hf 4 _ rfl
    obtain ⟨v5, n5, y5, e5, t5⟩ := hf 5 _ rfl
    cases e0; cases e1; cases e2; cases e3; cases e4; cases e5
    obtain ⟨x0, g0, _, _⟩ := DataW.trod_int Try.underlying3 t0
    obtain ⟨x1, g1, _, _⟩ := DataW.trod_int Try.underlying3 t1
    obtain ⟨x2, g2, _, hs2⟩ := DataW.trod_string Try.underlying9 t2
    obtain ⟨x3, g3, _, hs3⟩ := DataW.trod_string Try.underlying9 t3
    obtain ⟨x4, g4, _, hw⟩ := DataW.trod_int Try.underlying22 t4
    obtain ⟨x5, g5, _, hw5⟩ := DataW.trod_int Try.underlying3 t5
    obtain ⟨u, rfl⟩ := word_of hw
    cases g0; cases g1; cases g2; cases g3; cases g4; cases g5
    exact ⟨⟨⟨x0, x1, x2, x3, u, x5⟩, hs2, hs3, i64_of hw5⟩, rfl⟩
end
/-- the cells of step k of a script -/
theorem st9_at {w : World} {a : Option Addr} {n cap : Nat} {l : List St9B} (h : RdC w 6 (.slice a n cap) n (l.flatMap st9)) (k : Nat) (hk : k < l.length) :
    ∃ g off, a = some ⟨g, off, none⟩ ∧ w.cell? ⟨g, off + k * 6, none⟩ = some (.int .i64 l[k].1.do_) ∧ w.cell? ⟨g, off + k * 6 + 1, none⟩ = some (.int .i64 l[k].1.who) ∧ w.cell? ⟨g, off + k * 6 + 2, none⟩ = some (.string l[k].1.field) ∧
      w.cell? ⟨g, off + k * 6 + 3, none⟩ = some (.string l[k].1.s) ∧ w.cell? ⟨g, off + k * 6 + 4, none⟩ = some (.int .u64 (wd l[k].1.n)) ∧ w.cell? ⟨g, off + k * 6 + 5, none⟩ = some (.int .i64 l[k].1.count) := by
  have hf := fun j hj => flatAt st9 6 st9_len l k j hk hj
  obtain ⟨g, off, rfl, hc⟩ := h.at (by rw [flat_size st9 6 st9_len]; omega)
  refine ⟨g, off, rfl, ?_, ?_, ?_, ?_, ?_, ?_⟩
  · exact hc (k * 6 + 0) _ (by rw [hf 0 (by decide)]; rfl)
  · rw [Nat.add_assoc]; exact hc (k * 6 + 1) _ (by rw [hf 1 (by decide)]; rfl)
  · rw [Nat.add_assoc]; exact hc (k * 6 + 2) _ (by rw [hf 2 (by decide)]; rfl)
  · rw [Nat.add_assoc]; exact hc (k * 6 + 3) _ (by rw [hf 3 (by decide)]; rfl)
  · rw [Nat.add_assoc]; exact hc (k * 6 + 4) _ (by rw [hf 4 (by decide)]; rfl)
  · rw [Nat.add_assoc]; exact hc (k * 6 + 5) _ (by rw [hf 5 (by decide)]; rfl)
end Go.Proofs.Ytgomilodeaafdaa
namespace Go.Proofs.Ytgomilodeaafdaa
open Go.RowKit Ds
theorem fr_bel {w w' : World} (hb : Below w.heap.size w w') : Fr (fun _ => False) w w' := ⟨hb.os, hb.tape, hb.output, hb.size, fun k hk _ => hb.block k hk⟩
structure Rc (K : Nat) (w0 w : World) (F : Nat → Prop) (r d : Nat) (M : DM) (A : List Pr) : Prop where
  rf : RecF w w0.heap.size F r d M A
  bel : Below w0.heap.size w0 w
  lens : Lens M K
  few : A.length ≤ K
/-- a row that lies apart -/
def Aw (F : Nat → Prop) (v : Value) : Prop := ∀ g, v.ownBlock = some g → ¬ F g
theorem Aw.grew {F : Nat → Prop} {v : Value} {w w' : World} (h : Aw F v) (hl : ∀ g, v.ownBlock = some g → g < w.heap.size) : Aw (Grew F w w') v := fun g hg k => k.elim (h g hg) (fun h2 => by have := hl g hg; omega)
theorem Aw.own {F : Nat → Prop} {v : Value} {w w' : World} {B : Nat} {e : TypeId} {s n : Nat} {xs : List Value} (h : Aw F v) (hr : w.ownsRow B e s v n xs) : Aw (Grew F w w') v := h.grew fun _ hg => (own_blk hr hg).2.1
section
variable {K K' : Nat} {w0 w w' : World} {F T : Nat → Prop} {r d : Nat} {M M' : DM} {A A' : List Pr}
theorem Rc.away (h : Rc K w0 w F r d M A) {v : Value} {e : TypeId} {s n : Nat} {xs : List Value} (hr : w'.ownsRow w.heap.size e s v n xs) : Aw F v := fun g hg k => by
  have := (h.rf.lt g k).2
  have := (own_blk hr hg).1
  omega
theorem Rc.got (h : Rc K w0 w F r d M A) (g : RecGot w w0.heap.size F r d M' A' w') (hl : Lens M' K') (hk : A'.length ≤ K') : Rc K' w0 w' (Grew F w w') r d M' A' :=
  ⟨g.1, h.bel.trans (g.2.below h.bel.size fun i hi => (h.rf.lt i hi).1), hl, hk⟩
theorem Rc.other (h : Rc K w0 w F r d M A) (hf : Fr T w w') (hT : ∀ k, F k → ¬ T k) (hB : ∀ k, T k → w0.heap.size ≤ k) : Rc K w0 w' F r d M A :=
  ⟨h.rf.other hf hT, h.bel.trans (hf.below h.bel.size hB), h.lens, h.few⟩
theorem Rc.quiet (h : Rc K w0 w F r d M A) (hf : Fr (fun _ => False) w w') : Rc K w0 w' F r d M A := h.other hf (fun _ _ h => h) (fun _ h => h.elim)
theorem Rc.mono (h : Rc K w0 w F r d M A) (hk : K ≤ K') : Rc K' w0 w F r d M A := ⟨h.rf, h.bel, h.lens.mono hk, Nat.le_trans h.few hk⟩
theorem Rc.count (h : Rc K w0 w F r d M A) : M.n = A.length := h.rf.like.count
theorem Rc.lensStep (h : Rc K w0 w F r d M A) : Lens (stepM M) K := h.lens.step
theorem Rc.stepN (h : Rc K w0 w F r d M A) : (stepM M).n ≤ K := by rw [(step_lens M).2.2.2, h.count]; exact h.few
end
theorem rc_new (w0 w : World) (seed : UInt64) (hb : Below w0.heap.size w0 w) : Calls Try.prog 22 #[.int .u64 (wd seed)] w fun e w' => ∃ r d M F, e = .returned (.pointer (some ⟨r, 0, none⟩)) ∧ Rc 0 w0 w' F r d M [] ∧ M.seed = seed ∧ Below w.heap.size w w' ∧ ∀ k, F k → w.heap.size ≤ k := by
  refine (recNew_any w seed).mono ?_
  rintro e w' ⟨r, d, h1, h2, h3⟩
  exact ⟨r, d, _, _, h1, ⟨h2.base hb.size, hb.trans (h3.mono hb.size), by unfold Lens; simp, Nat.le_refl _⟩, rfl, h3, fun k hk => hk.1⟩
section
variable (w0 w : World) (K : Nat) (F : Nat → Prop) (r d : Nat) (M : DM) (A : List Pr) (key s : ByteArray)
/-- what a call that turns a record leaves -/
def RcTo (A' : List Pr) (K' : Nat) (w' : World) : Prop := ∃ M', Rc K' w0 w' (Grew F w w') r d M' A' ∧ M'.seed = M.seed ∧ Fr F w w'
theorem rc_set (h : Rc K w0 w F r d M A) (hf : Fits (key, s)) (hK : K < 1048576) :
    Calls Try.prog 24 #[.pointer (some ⟨r, 0, none⟩), .string key, .string s] w fun e w' => e = .returned (.tuple #[.bool (fdG key A).isNone, .int .i64 0]) ∧ RcTo w0 w F r d M (setG A key s) (K + 1) w' := by
  refine (recSet_any w _ F r d M A key s h.rf h.bel.size hf (by have := h.few; omega)).mono ?_
  rintro e w' ⟨h1, t, b, h2⟩
  refine ⟨h1, _, h.got h2 ?_ ?_, ?_, h2.2⟩
  · exact ((h.lensStep).set (inv_step M h.rf.like.inv) h.stepN key _ t b).mono (Nat.le_succ _)
  · rw [len_set]; have := h.few; split <;> omega
  · rw [set_seed (inv_step M h.rf.like.inv) key _ t b]; exact (step_lens M).2.2.1
theorem rc_del (h : Rc K w0 w F r d M A) (hk : key.size ≤ maxLen) :
    Calls Try.prog 29 #[.pointer (some ⟨r, 0, none⟩), .string key] w fun e w' => e = .returned (.bool (fdG key A).isSome) ∧ RcTo w0 w F r d M (delG A key) K w' := by
  refine (recDel_any w _ F r d M A key h.rf h.bel.size hk).mono ?_
  rintro e w' ⟨h1, M', h2, h3⟩
  have hl : (delG A key).length ≤ K := Nat.le_trans len_del h.few
  rcases h3 with ⟨_, rfl⟩ | ⟨_, t, rfl⟩
  · exact ⟨h1, _, h.got h2 h.lensStep hl, (step_lens M).2.2.1, h2.2⟩
  · refine ⟨h1, _, h.got h2 ((h.lensStep).del (inv_step M h.rf.like.inv) h.stepN key t) hl, ?_, h2.2⟩
    rw [del_seed (inv_step M h.rf.like.inv) key t]; exact (step_lens M).2.2.1
theorem rc_get (h : Rc K w0 w F r d M A) (hk : key.size ≤ maxLen) :
    Calls Try.prog 31 #[.pointer (some ⟨r, 0, none⟩), .string key] w fun e w' => e = .returned (.tuple #[valG A key, .bool (fdG key A).isSome]) ∧ RcTo w0 w F r d M A K w' := by
  refine (recGet_any w _ F r d M A key h.rf h.bel.size hk).mono ?_
  rintro e w' ⟨h1, h2⟩
  exact ⟨h1, _, h.got h2 h.lensStep h.few, (step_lens M).2.2.1, h2.2⟩
end
end Go.Proofs.Ytgomilodeaafdaa
