/- The walks of package draw's Source: New, Left, Next, Below. Each says what is told and what the source then holds. -/
import Derived.Test.YtpcjogmikgfgdaaHash
import Derived.Test.YtpcjogmikgfgdaaHeap
import Derived.Deep.Light
import Derived.Lib.SliceRun
namespace Go.Proofs.Ytpcjogmikgfgdaa
open Go.RowKit

theorem one_u64 (l : List UInt64) : ∀ u ∈ l.map u64, u.oneCell' = true := by
  intro u hu; obtain ⟨x, _, rfl⟩ := List.mem_map.1 hu; rfl
theorem Try.info24 : (Try.prog.info? 24).map (fun i => (i.zero, i.size, i.bytes)) = some (some (.int .u64 0), 1, 8) := by kernel_rfl

def SomeRow (w : World) (n : Nat) (xs : List Value) (e : Ending) (w' : World) : Prop :=
  ∃ v', e = .returned v' ∧ w'.ownsRow w.heap.size 24 1 v' n xs ∧ Below w.heap.size w w'

set_option maxHeartbeats 400000 in
theorem clone_any (v : Value) (l : List UInt64) (w : World) (h : RdC w 1 v l.length (l.map u64)) (hb : l.length * 8 ≤ 140737488355328) :
    Calls Try.prog 56 #[v] w (SomeRow w l.length (l.map u64)) := by
  obtain ⟨i0, hi, hz0, hz1, hz2⟩ := info_parts Try.info24
  have hlen := h.len
  have HL := Lib.hid h
  obtain ⟨h1, a, cap, rfl, h2, h3, h4, h5⟩ := h
  clear h1 h5
  have heq := fun (w : World) (b : Option Addr) (n c : Nat) => Lib.run_eql_slice_nil (P := Try.prog) w 22 24 b n c 0 0 Try.underlying22
  cases a with
  | none =>
    obtain ⟨e1, e2⟩ := h4 rfl
    have e3 : l = [] := by simpa using e1
    subst e3; subst e2
    go_enter Try.func56, Try.ntmps56
    go_wp2
    go_ret
    exact ⟨_, rfl, World.ownsRow_nil _ _ _ _, Below.refl _ _⟩
  | some ad =>
    clear h4
    go_enter Try.func56, Try.ntmps56
    go_wp2_with (at_builtin; refine wpl_append rfl (.tmp 5) (.tmp 6) 22 rfl w.heap.size 24 i0 (.int .u64 0) 1 8 Try.underlying22 hi hz0 hz1 hz2 rfl (by decide) _ 0 [] rfl (World.ownsRow_lit w #[] 0 (Nat.le_refl _) (by decide) rfl) _ l.length (l.map u64) rfl (HL.out.below ((Below.refl _ _).alloc (Nat.le_refl _) _)) (one_u64 l) (by omega) (by omega) (by simp) ?_; intro v' w' hown hgrow)
    go_ret
    refine ⟨v', rfl, by simpa using hown, ?_⟩
    exact ((Below.refl _ _).alloc (Nat.le_refl _) _).grown hgrow (by simp) (fun k e => by cases e; exact Nat.le_refl _)
/-- a source at block p holds the numbers l; it lies in blocks of S -/
def SrcAt (w : World) (p : Nat) (l : List UInt64) (S : Nat → Prop) : Prop :=
  ∃ v, w.heap[p]? = some (.cells #[v] 94 (0, 0)) ∧ RdC w 1 v l.length (l.map u64) ∧ S p ∧ ∀ g, v.ownBlock = some g → S g ∧ g ≠ p
theorem SrcAt.fr {w w' : World} {p : Nat} {l : List UInt64} {S T : Nat → Prop} (h : SrcAt w p l S) (hf : Fr T w w') (hd : ∀ k, S k → ¬ T k) : SrcAt w' p l S := by
  obtain ⟨v, h1, h2, h3, h4⟩ := h
  exact ⟨v, (hf.block p (Array.getElem?_eq_some_iff.1 h1).1 (hd p h3)).trans h1, h2.fr hf (fun g hg => hd g (h4 g hg).1), h3, h4⟩

def SomeSrc (w : World) (l : List UInt64) (e : Ending) (w' : World) : Prop :=
  ∃ p, e = .returned (.pointer (some ⟨p, 0, none⟩)) ∧ SrcAt w' p l (fun k => w.heap.size ≤ k ∧ k < w'.heap.size) ∧ Below w.heap.size w w'

set_option maxHeartbeats 400000 in
theorem new_any (v : Value) (l : List UInt64) (w : World) (h : RdC w 1 v l.length (l.map u64)) (hb : l.length * 8 ≤ 140737488355328) :
    Calls Try.prog 14 #[v] w (SomeSrc w l) := by
  go_enter Try.func14, Try.ntmps14
  go_wp2_with (go_at_call 56; refine (clone_any _ l _ h hb).mono ?_; rintro e w1 ⟨v', rfl, hown, hbel⟩; obtain ⟨a', c', rfl⟩ := owns_slice hown)
  go_ret
  refine ⟨w1.heap.size, rfl, ⟨_, heap_alloc_new w1 _, (RdC.of_owns hown).below ((Below.refl _ _).alloc (Nat.le_refl _) _), ⟨hbel.size, by simp⟩, fun g hg => ?_⟩, hbel.trans ((Below.refl _ _).alloc hbel.size _)⟩
  have := hown.lt g hg
  exact ⟨⟨this.1, by simp; omega⟩, by omega⟩
theorem left_nil (w : World) : Calls Try.prog 18 #[.pointer none] w fun e w' => e = .returned (.int .i64 0) ∧ w = w' := by
  go_enter Try.func18, Try.ntmps18
  go_wp2
  go_ret
  exact ⟨rfl, rfl⟩
theorem left_any (w : World) (p : Nat) (l : List UInt64) (S : Nat → Prop) (h : SrcAt w p l S) :
    Calls Try.prog 18 #[.pointer (some ⟨p, 0, none⟩)] w fun e w' => e = .returned (.int .i64 l.length) ∧ w = w' := by
  obtain ⟨v, h1, h2, h3, h4⟩ := h
  obtain ⟨_, a, cap, rfl, _⟩ := h2
  have hc := cell_of_one h1
  clear h1 h4
  go_enter Try.func18, Try.ntmps18
  go_wp2
  go_ret
  exact ⟨rfl, rfl⟩

/-- what the first number of a list is; 0 behind its end -/
def hd0 (l : List UInt64) : UInt64 := l.headD 0
def NextPost (w : World) (p : Nat) (l : List UInt64) (S : Nat → Prop) (e : Ending) (w' : World) : Prop :=
  e = .returned (.int .u64 (wd (hd0 l))) ∧ SrcAt w' p l.tail S ∧ Fr (fun k => k = p) w w'
theorem next_nil (w : World) : Calls Try.prog 16 #[.pointer none] w fun e w' => e = .returned (.int .u64 0) ∧ w = w' := by
  go_enter Try.func16, Try.ntmps16
  go_wp2_with (go_at_call 18; refine (left_nil _).mono ?_; rintro e w' ⟨rfl, rfl⟩)
  go_ret
  exact ⟨rfl, rfl⟩
theorem next_empty (w : World) (p : Nat) (S : Nat → Prop) (h : SrcAt w p [] S) :
    Calls Try.prog 16 #[.pointer (some ⟨p, 0, none⟩)] w (NextPost w p [] S) := by
  go_enter Try.func16, Try.ntmps16
  go_wp2_with (go_at_call 18; refine (left_any _ p [] S h).mono ?_; rintro e w' ⟨rfl, rfl⟩)
  go_ret
  exact ⟨rfl, h, Fr.refl _ _⟩
theorem srcAt_set {w : World} {p : Nat} {v v2 : Value} {l : List UInt64} {S : Nat → Prop} (h1 : w.heap[p]? = some (.cells #[v] 94 (0, 0))) (h2 : RdC w 1 v2 l.length (l.map u64)) (h3 : S p)
    (h4 : ∀ g, v2.ownBlock = some g → S g ∧ g ≠ p) : SrcAt (w.setCell ⟨p, 0, none⟩ v2) p l S ∧ Fr (fun k => k = p) w (w.setCell ⟨p, 0, none⟩ v2) :=
  ⟨⟨v2, one_setCell h1, h2.fr (Fr.setCell w _ _) (fun g hg => (h4 g hg).2), h3, h4⟩, Fr.setCell w ⟨p, 0, none⟩ v2⟩
set_option maxHeartbeats 400000 in
theorem next_cons (w : World) (p : Nat) (x : UInt64) (l : List UInt64) (S : Nat → Prop) (h : SrcAt w p (x :: l) S) :
    Calls Try.prog 16 #[.pointer (some ⟨p, 0, none⟩)] w (NextPost w p (x :: l) S) := by
  have H := Lib.hid h
  obtain ⟨v, h1, h2, h3, h4⟩ := h
  have hlen := h2.len
  have HR := Lib.hid h2
  obtain ⟨e1, a, cap, rfl, e2, e3, e4, e5⟩ := h2
  obtain ⟨g, off, rfl, hcells⟩ := HR.out.at (by simp)
  have hx := hcells 0 (u64 x) (by simp)
  have hc := cell_of_one h1
  have hf := free_of_one h1
  unfold u64 at hx
  simp at hx
  clear e5 e4 hcells e1
  have H1 := Lib.hid h1; clear h1
  unfold maxLen at e3 hlen
  simp only [List.length_cons] at e2 hlen
  have hpos : ¬ ((l.length : Int) + 1 = 0) := by omega
  have hposb : ((l.length : Int) + 1 == 0) = false := by simp; omega
  have hlt : (0 : Int) < (l.length : Int) + 1 := by omega
  go_enter Try.func16, Try.ntmps16
  go_wp2_with (go_at_call 18; refine (left_any _ p (x :: l) S H.out).mono ?_; rintro e w' ⟨rfl, rfl⟩)
  all_goals
    go_ret
    refine ⟨rfl, srcAt_set H1.out (HR.out.tail _ _ (by omega) ?_) h3 h4⟩
    first | exact .inl rfl | exact .inr ⟨by omega, rfl⟩
theorem next_any (w : World) (p : Nat) (l : List UInt64) (S : Nat → Prop) (h : SrcAt w p l S) :
    Calls Try.prog 16 #[.pointer (some ⟨p, 0, none⟩)] w (NextPost w p l S) := by
  cases l with
  | nil => exact next_empty w p S h
  | cons x l => exact next_cons w p x l S h

def below0 (x n : UInt64) : UInt64 := if n = 0 then 0 else x % n
theorem wd_tmod (x n : UInt64) : (wd x).tmod (wd n) = wd (x % n) := by
  rw [Int.tmod_eq_emod_of_nonneg (wd_nonneg x)]
  unfold wd
  rw [UInt64.toNat_mod]; rfl
def BelowPost (w : World) (p : Nat) (l : List UInt64) (n : UInt64) (S : Nat → Prop) (e : Ending) (w' : World) : Prop :=
  e = .returned (.int .u64 (wd (below0 (hd0 l) n))) ∧ SrcAt w' p l.tail S ∧ Fr (fun k => k = p) w w'
theorem below_nil (w : World) (n : UInt64) : Calls Try.prog 17 #[.pointer none, .int .u64 (wd n)] w fun e w' => e = .returned (.int .u64 0) ∧ w = w' := by
  by_cases hn : n = 0
  · have hb : (wd n == 0) = true := by subst hn; rfl
    go_enter Try.func17, Try.ntmps17
    go_wp2_with (go_at_call 16; refine (next_nil _).mono ?_; rintro e w' ⟨rfl, rfl⟩)
    go_ret
    exact ⟨rfl, rfl⟩
  · have hz : ¬ wd n = 0 := fun h => hn (wd_inj h)
    have hb : (wd n == 0) = false := by simpa using hz
    go_enter Try.func17, Try.ntmps17
    go_wp2_with (go_at_call 16; refine (next_nil _).mono ?_; rintro e w' ⟨rfl, rfl⟩)
    go_ret
    exact ⟨by simp, rfl⟩
theorem below_any (w : World) (p : Nat) (l : List UInt64) (n : UInt64) (S : Nat → Prop) (h : SrcAt w p l S) :
    Calls Try.prog 17 #[.pointer (some ⟨p, 0, none⟩), .int .u64 (wd n)] w (BelowPost w p l n S) := by
  by_cases hn : n = 0
  · have hb : (wd n == 0) = true := by subst hn; rfl
    go_enter Try.func17, Try.ntmps17
    go_wp2_with (go_at_call 16; refine (next_any _ _ _ _ h).mono ?_; rintro e w' ⟨rfl, hsrc, hfr⟩)
    go_ret
    exact ⟨by simp [below0, hn]; rfl, hsrc, hfr⟩
  · have hz : ¬ wd n = 0 := fun h => hn (wd_inj h)
    have hb : (wd n == 0) = false := by simpa using hz
    go_enter Try.func17, Try.ntmps17
    go_wp2_with (go_at_call 16; refine (next_any _ _ _ _ h).mono ?_; rintro e w' ⟨rfl, hsrc, hfr⟩)
    go_ret
    refine ⟨ret_u64 ?_, hsrc, hfr⟩
    rw [wd_tmod]; simp [below0, hn]
end Go.Proofs.Ytpcjogmikgfgdaa
