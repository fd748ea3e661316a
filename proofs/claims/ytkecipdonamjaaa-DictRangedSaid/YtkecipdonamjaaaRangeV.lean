/- A loop over an iterator whose body need serve only the rounds that come in truth: what has come so far is of the kind V (a prefix of what there is). The kit's laws ask the body at every element of the type, in whatever order; here the order is known, and with it how much has been gathered. No condition; no program. -/
import Derived.RangeFuncFrom
import Derived.RangeFuncLeaves
namespace Go.Proofs.Ytkecipdonamjaaa
open Go.RowKit
variable {F : Fence} {n : Nat} {P : Program} {α : Type}
/-- blocks for deferred calls from n0 on stay as they were -/
def Late (n0 : Nat) (A B : World) : Prop := ∀ k ds, n0 ≤ k → A.heap[k]? = some (.deferred ds) → B.heap[k]? = some (.deferred ds)
/-- an iterator's contract: V says what may have come, this round's element with it -/
def SeqV (F : Fence) (n : Nat) (P : Program) (g : Nat) (lb : Array Value) (encs : α → Array Value) (Kp : World → World → Prop) (V S Sp : List α → Prop) (w : World) : Prop :=
  ∀ (l : Nat) (J Jx : List α → World → Prop) (W : World), Below w.heap.size w W → OwnFrom W.heap.size J → OwnFrom W.heap.size Jx →
    (∀ pre x W1, J pre W1 → V (pre ++ [x]) → YieldAt F (n - 1) P l (encs x) W1 fun e W' => (e = .returned (.bool true) ∧ J (pre ++ [x]) W' ∧ Kp W1 W') ∨ (e = .returned (.bool false) ∧ Jx (pre ++ [x]) W' ∧ Late 0 W1 W')) →
    J [] W → CallsIn F n P g (#[.func (.yield l) #[] #[]] ++ lb) W fun e W' => (∃ v, e = .returned v) ∧ ((∃ xs, S xs ∧ J xs W') ∨ (∃ pre, Sp pre ∧ Jx pre W'))
/-- the loop's record, ready or over -/
def recOf (fn : FuncId) (tmps : Array Value) (ps : Array Tmp) (assign body : Code) (D : Nat) (st : LoopState) (pe : Option Code) : Loop := { state := st, pending := pe, fn, tmps, params := ps, assign, body, defers := D }
/-- the two blocks of the loop's own -/
structure Rec (fn : FuncId) (tmps : Array Value) (ps : Array Tmp) (assign body : Code) (D : Nat) (st : LoopState) (pe : Option Code) (W : World) : Prop where
  loop : W.heap[D + 1]? = some (.loop (recOf fn tmps ps assign body D st pe))
  late : W.heap[D]? = some (.deferred (some []))
section
variable {fn : FuncId} {tmps : Array Value} {ps : Array Tmp} {assign body : Code} {D : Nat} {st : LoopState} {pe : Option Code} {W W' : World}
theorem Rec.lt (h : Rec fn tmps ps assign body D st pe W) : D + 1 < W.heap.size := (Array.getElem?_eq_some_iff.1 h.loop).1
theorem Rec.put (h : Rec fn tmps ps assign body D st pe W) (st' : LoopState) (pe' : Option Code) : Rec fn tmps ps assign body D st' pe' (W.putObj (D + 1) (.loop (recOf fn tmps ps assign body D st' pe'))) :=
  ⟨World.putObj_heap_same h.lt, (World.putObj_heap_other (by omega)).trans h.late⟩
theorem Rec.others (h : Rec fn tmps ps assign body D st pe W) (hk : KeepsOthers W W') : Rec fn tmps ps assign body D st pe W' := ⟨hk.same _ _ h.loop rfl, hk.same _ _ h.late rfl⟩
theorem Rec.beyond {row : Option Nat} (h : Rec fn tmps ps assign body D st pe W) (hg : W.grownBy W' row) (hr : ∀ r, row = some r → D + 1 < r) : Rec fn tmps ps assign body D st pe W' :=
  ⟨(hg.block _ h.lt (fun e => by have := hr _ e.symm; omega)).trans h.loop, (hg.block _ (by have := h.lt; omega) (fun e => by have := hr _ e.symm; omega)).trans h.late⟩
end
theorem wpIn_rangeV {g : Operand} {ps : Array Tmp} {assign body : Code} {Q : Exit → Act → World → Prop} {a : Act} {w : World}
    (hro : F.round = none) (h1 : 1 ≤ n) {gf : Nat} {lb : Array Value} (hg : a.eval g = .func (.func gf) #[] lb) (hFg : F.fn gf) (eg : ∀ args w, (callFunc gf args).run P w = .ok (.enter gf args) w)
    {encs : α → Array Value} {Kp : World → World → Prop} {V S Sp : List α → Prop} {w0 : World} (hseq : SeqV F (n - 1) P gf lb encs Kp V S Sp w0)
    (hKt : ∀ A B C : World, Kp A B → Kp B C → Kp A C) (hKb : ∀ (W : World) (l : Nat) (r r' : Loop), w.heap.size ≤ l → W.heap[l]? = some (.loop r) → Kp W (W.putObj l (.loop r'))) (hb0 : Below w0.heap.size w0 w) (hps : ∀ x, (encs x).size = ps.size)
    (I : List α → World → Prop) (Ix : Code → List α → World → Prop) (hI : OwnFrom w.heap.size I) (hIx : ∀ c, OwnFrom w.heap.size (Ix c)) (h0 : I [] w) (a₁ : α → Act)
    (hassign : ∀ (l : Nat) (x : α) (W : World) (K : Act → World → Prop), K (a₁ x) W →
      assign.wpIn (F.inRound l) (n - 1 - 1) P (Exit.then K (fun _ _ _ => False)) { tmps := (ps.zip (encs x)).foldl (fun t (p, v) => t.setIfInBounds p v) a.tmps, defers := [] } W)
    (hbody : ∀ (l : Nat) (pre : List α) (x : α) (W : World), I pre W → V (pre ++ [x]) → body.wpIn (F.inRound l) (n - 1 - 1) P (ownPostK Kp I Ix (pre ++ [x]) W) (a₁ x) W)
    (hdone : ∀ (D : Nat) (xs : List α) (W : World), w.heap.size ≤ D → S xs → I xs W → W.heap[D]? = some (.deferred (some [])) → Q .normal { a with defers := { target := .collected D, args := #[] } :: a.defers } W)
    (hstop : ∀ (D : Nat) (c : Code) (pre : List α) (W : World), w.heap.size ≤ D → Sp pre → Ix c pre W → W.heap[D]? = some (.deferred (some [])) → c.wpIn F n P Q { a with defers := { target := .collected D, args := #[] } :: a.defers } W) :
    (Code.rangeFunc g ps assign body).wpIn F n P Q a w := by
  refine wpIn_rangeFunc fun fn hfn => ?_
  rw [hro]
  obtain ⟨D, hD⟩ : ∃ D, w.heap.size = D := ⟨_, rfl⟩
  obtain ⟨W1, hW1⟩ : ∃ W1, (w.alloc (.deferred (some []))).alloc (.loop (recOf fn a.tmps ps assign body D .ready none)) = W1 := ⟨_, rfl⟩
  have hR1 : Rec fn a.tmps ps assign body D .ready none W1 := by
    rw [← hW1, ← hD]
    refine ⟨?_, (Below.heap_alloc _ _ _ (by simp)).trans (World.alloc_heap_new w _)⟩
    have := World.alloc_heap_new (w.alloc (.deferred (some []))) (.loop (recOf fn a.tmps ps assign body w.heap.size .ready none))
    rwa [World.size_alloc] at this
  have hI1 : I [] W1 := by rw [← hW1]; exact hI.alloc _ (hI.alloc _ h0)
  have hb1 : Below w0.heap.size w0 W1 := by rw [← hW1]; exact hb0.trans ((((Below.refl _ w).alloc (Nat.le_refl _) _).alloc (by simp) _).mono hb0.size)
  have hs1 : D ≤ W1.heap.size := by have := hR1.lt; omega
  refine ⟨D + 1, [{ target := .collected D, args := #[] }], W1, { target := .fn (.func gf) lb, args := #[.func (.yield (D + 1)) #[] #[]] }, W1, gf, #[.func (.yield (D + 1)) #[] #[]] ++ lb, W1, ?_, ?_, ?_, ?_, fun _ => h1, ?_⟩
  · rw [← hW1, ← hD]; exact run_enterLoop_outer _ _ _ _ _
  · simp only [resolve, hg]
    simp [go_sem]
  · intro f' hf'; simp [Target.leads] at hf'; subst hf'; exact hFg
  · simp [invoke, go_sem, eg]
  have hs2 : D + 1 < W1.heap.size := hR1.lt
  have loose : ∀ {A : World} {row : Option Nat}, (∀ r, row = some r → W1.heap.size ≤ r ∧ ∃ o : Obj, A.heap[r]? = some o ∧ o.isCells = false) → ∀ r, row = some r → w.heap.size ≤ r ∧ ∃ o : Obj, A.heap[r]? = some o ∧ o.isCells = false := by
    intro A row hr r e
    obtain ⟨hB, o, ho, hw⟩ := hr r e
    exact ⟨by omega, o, ho, hw⟩
  refine (hseq (D + 1) (fun pre W => I pre W ∧ Rec fn a.tmps ps assign body D .ready none W) (fun pre W => ∃ c, Ix c pre W ∧ Rec fn a.tmps ps assign body D .done (some c) W) W1 hb1
    (fun s A B row hs hg' hr => ⟨hI s A B row hs.1 hg' (loose hr), hs.2.beyond hg' fun r e => Nat.lt_of_lt_of_le hs2 (hr r e).1⟩)
    (fun s A B row ⟨c, hc, hl⟩ hg' hr => ⟨c, hIx c s A B row hc hg' (loose hr), hl.beyond hg' fun r e => Nat.lt_of_lt_of_le hs2 (hr r e).1⟩) ?_ ⟨hI1, hR1⟩).mono ?_
  · rintro pre x W ⟨hi, hl⟩ hv
    have hy := run_yield (P := P) (args := encs x) hl.loop (hps x)
    refine ⟨fn, _, assign, body, hy, roundIn_of_wpIn hfn (hassign _ x W _ ⟨_, run_beginRound hl.loop rfl, ?_⟩)⟩
    have hl2 := hl.put .busy none
    have hi2 := hI.putObj (.loop (recOf fn a.tmps ps assign body D .busy none)) hi (by omega) hl.loop rfl
    have hk2 : Kp W (W.putObj (D + 1) (.loop (recOf fn a.tmps ps assign body D .busy none))) := hKb _ _ _ _ (by omega) hl.loop
    refine wpIn_mono (hbody _ pre x _ hi2 hv) ?_
    have leave : ∀ (c : Code) (W3 : World), KeepsOthers (W.putObj (D + 1) (.loop (recOf fn a.tmps ps assign body D .busy none))) W3 → Ix c (pre ++ [x]) W3 →
        ∃ v W4, (Instr.endRound (D + 1) (some c)).run P W3 = .ok v W4 ∧ ((Ending.returned v = .returned (.bool true) ∧ (I (pre ++ [x]) W4 ∧ Rec fn a.tmps ps assign body D .ready none W4) ∧ Kp W W4) ∨ (Ending.returned v = .returned (.bool false) ∧ (∃ c, Ix c (pre ++ [x]) W4 ∧ Rec fn a.tmps ps assign body D .done (some c) W4) ∧ Late 0 W W4)) := by
      intro c W3 hk3 hx
      have hl3 := hl2.others hk3
      have late : ∀ (A : World) (r r' : Loop), A.heap[D + 1]? = some (.loop r) → Late 0 A (A.putObj (D + 1) (.loop r')) := by
        intro A r r' h k ds _ hk
        by_cases e : k = D + 1
        · subst e; rw [h] at hk; cases hk
        · exact (World.putObj_heap_other e).trans hk
      exact ⟨_, _, run_endRound (P := P) (some c) hl3.loop, .inr ⟨rfl, ⟨c, (hIx c).putObj _ hx (by omega) hl3.loop rfl, hl3.put .done (some c)⟩, fun k ds h0 hk => late _ _ _ hl3.loop k ds h0 (hk3.same k _ (late _ _ _ hl.loop k ds h0 hk) rfl)⟩⟩
    rintro e a3 W3 hp
    cases e with
    | normal =>
      obtain ⟨hk3, hkp3, hi3⟩ := hp
      have hl3 := hl2.others hk3
      exact ⟨_, _, run_endRound (P := P) none hl3.loop, .inl ⟨rfl, ⟨hI.putObj _ hi3 (by omega) hl3.loop rfl, hl3.put .ready none⟩, hKt _ _ _ (hKt _ _ _ hk2 hkp3) (hKb _ _ _ _ (by omega) hl3.loop)⟩⟩
    | ret => exact leave _ W3 hp.1 hp.2
    | exit id => exact leave _ W3 hp.1 hp.2
    | goto t => exact leave _ W3 hp.1 hp.2
    | panic ch => exact hp.elim
    | outgrown => exact hp.elim
  · rintro e W2 ⟨⟨v, rfl⟩, (⟨xs, hS, hi, hl⟩ | ⟨pre, hSp, c, hi, hl⟩)⟩
    · exact ⟨none, _, run_endLoop (P := P) hl.loop (by simp [recOf]), hdone D xs _ (by omega) hS (hI.putObj _ hi (by omega) hl.loop rfl) (hl.put .exhausted none).late⟩
    · exact ⟨some c, _, run_endLoop (P := P) hl.loop (by simp [recOf]), hstop D c pre _ (by omega) hSp ((hIx c).putObj _ hi (by omega) hl.loop rfl) (hl.put .exhausted (some c)).late⟩
end Go.Proofs.Ytkecipdonamjaaa
