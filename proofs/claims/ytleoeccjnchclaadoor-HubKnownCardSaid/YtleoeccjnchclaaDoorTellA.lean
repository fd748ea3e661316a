/- What a hub tells: outs in memory; the keys of byPattern, rising. No condition. -/
import Derived.Test.YtleoeccjnchclaaDoorBulks
import Derived.Test.YtleoeccjnchclaaDoorGlobN
namespace Go.Proofs.YtleoeccjnchclaaDoor
open Go.RowKit
theorem rows_apart {w : World} {B B' : Nat} {e e' : TypeId} {s s' n n' : Nat} {v v' : Value} {xs xs' : List Value} (h : w.ownsRow B e s v n xs) (h' : w.ownsRow B' e' s' v' n' xs') (he : e ≠ e') :
    ∀ g, v.ownBlock = some g → ¬ v'.ownBlock = some g := by
  intro g h1 h2
  rcases h.2 with ⟨rfl, _⟩ | ⟨g1, cap, cur, rfl, _, hg, _⟩
  · cases h1
  · cases h1
    rcases h'.2 with ⟨rfl, _⟩ | ⟨g2, cap2, cur2, rfl, _, hg2, _⟩
    · cases h2
    · cases h2
      rw [hg] at hg2
      simp only [Option.some.injEq, Obj.cells.injEq] at hg2
      exact he hg2.2.1
theorem ow_frT {w w' : World} {B : Nat} {e : TypeId} {size : Nat} {v : Value} {n : Nat} {xs : List Value} (h : w.ownsRow B e size v n xs) {S : Nat → Prop} (hf : Fr S w w') (hd : ∀ g, v.ownBlock = some g → ¬ S g) : w'.ownsRow B e size v n xs := by
  rcases h with ⟨h1, h2 | ⟨g, cap, cur, rfl, hb, hg, hnc, hcm, hcs, htake⟩⟩
  · exact ⟨h1, .inl h2⟩
  · exact ⟨h1, .inr ⟨g, cap, cur, rfl, hb, (hf.block g (Array.getElem?_eq_some_iff.1 hg).1 (hd g rfl)).trans hg, hnc, hcm, hcs, htake⟩⟩
theorem ow_baseT {w : World} {B B' : Nat} {e : TypeId} {size : Nat} {v : Value} {n : Nat} {xs : List Value} (h : w.ownsRow B e size v n xs) (hb : B' ≤ B) : w.ownsRow B' e size v n xs := by
  rcases h with ⟨h1, h2 | ⟨g, cap, cur, rfl, hb2, hg, hnc, hcm, hcs, htake⟩⟩
  · exact ⟨h1, .inl h2⟩
  · exact ⟨h1, .inr ⟨g, cap, cur, rfl, by omega, hg, hnc, hcm, hcs, htake⟩⟩
/-- to whom, and the texts that are told -/
abbrev Ot := Int × List ByteArray
def outC (p : Ot × Value) : List Value := [.int .i64 p.1.1, .int .i64 6, .string ⟨#[]⟩, .int .i64 0, p.2]
/-- outs in memory -/
def OutsAt (w : World) (B : Nat) (v : Value) (outs : List Ot) : Prop := ∃ vals : List Value, vals.length = outs.length ∧ w.ownsRow B 41 5 v outs.length ((outs.zip vals).flatMap outC) ∧
  ∀ (i : Nat) (o : Ot) (u : Value), outs[i]? = some o → vals[i]? = some u → w.ownsRow B 39 4 u o.2.length (o.2.flatMap bulkC)
theorem OutsAt.nil (w : World) (B : Nat) : OutsAt w B (.slice none 0 0) [] := ⟨[], rfl, World.ownsRow_nil _ _ _ _, fun i o u h => by simp at h⟩
theorem OutsAt.quiet {w w' : World} {B : Nat} {v : Value} {outs : List Ot} (h : OutsAt w B v outs) (hf : Fr (fun _ => False) w w') : OutsAt w' B v outs := by
  obtain ⟨vals, h1, h2, h3⟩ := h
  exact ⟨vals, h1, ow_frT h2 hf (fun _ _ h => h), fun i o u a b => ow_frT (h3 i o u a b) hf (fun _ _ h => h)⟩
/-- one out more -/
theorem OutsAt.snoc {w w1 w2 : World} {B : Nat} {v v' : Value} {outs : List Ot} (h : OutsAt w B v outs) (hf : Fr (fun _ => False) w w1) {s : Int} {ts : List ByteArray} {u : Value} (hu : w1.ownsRow B 39 4 u ts.length (ts.flatMap bulkC)) {xs : List Value}
    (hv : w.ownsRow B 41 5 v outs.length xs) (ho : w2.ownsRow B 41 5 v' (outs.length + 1) (xs ++ outC ((s, ts), u))) (hx : ∀ vals : List Value, vals.length = outs.length → w.ownsRow B 41 5 v outs.length ((outs.zip vals).flatMap outC) → (outs.zip vals).flatMap outC = xs) (hg : w1.grownBy w2 v.ownBlock) : OutsAt w2 B v' (outs ++ [(s, ts)]) := by
  obtain ⟨vals, h1, h2, h3⟩ := h
  have e := hx vals h1 h2
  have hv1 := ow_frT hv hf (fun _ _ h => h)
  have hgf := Fr.of_grownBy hg
  refine ⟨vals ++ [u], by simp [h1], ?_, fun i o z hi hz => ?_⟩
  · rw [List.zip_append h1.symm, List.flatMap_append, e, List.length_append]
    simpa using ho
  · by_cases hl : i < outs.length
    · rw [List.getElem?_append_left hl] at hi
      rw [List.getElem?_append_left (by omega)] at hz
      have h4 := ow_frT (h3 i o z hi hz) hf (fun _ _ h => h)
      exact ow_frT h4 hgf (rows_apart h4 hv1 (by decide))
    · rw [List.getElem?_append_right (by omega)] at hi hz
      have h0 : i - outs.length = 0 := by
        have := (List.getElem?_eq_some_iff.1 hi).1
        simp at this
        omega
      rw [h0] at hi
      rw [h1, h0] at hz
      cases hi
      cases hz
      exact ow_frT hu hgf (rows_apart hu hv1 (by decide))
/-- the sessions of a set, rising -/
theorem riseSetI {w : World} {L : List (ByteArray × Nat)} {m : Nat} {f : ByteArray → List Int} (h : TL kS eM kI w m L f) (k : ByteArray) (hl : (f k).length ≤ 4398046511104) : Calls Tryd.prog 24 #[lookV eM k L] w (RPriseI w (f k)) := by
  unfold lookV
  cases hk : lkp k L with
  | none =>
    refine (riseI_nil w).mono fun e w' ⟨v, he, hr, hb⟩ => ⟨v, he, ?_, hb⟩
    rw [h.no k hk]
    rw [show (sortI []).map (Value.int .i64) = [] from by simp [sortI]]
    exact hr
  | some b =>
    have h1 := riseI_any w b (unL (f k)) (h.sets _ (look_mem hk)) (by rw [unL_len]; omega)
    rw [unL_keys] at h1
    exact h1
/-- what is told -/
def tellL (fb : ByteArray → List Int) (ks : List Int) (fp : Int → List ByteArray) (k text : ByteArray) : List Ot :=
  (sortI (fb k)).map (fun s => (s, [⟨#[109, 101, 115, 115, 97, 103, 101]⟩, k, text])) ++ (sortI ks).flatMap fun s => ((sortS (fp s)).filter fun p => gm p k).map fun p => (s, [⟨#[112, 109, 101, 115, 115, 97, 103, 101]⟩, p, k, text])
theorem info_out : (Tryd.prog.info? 41).map (fun i => (i.zero, i.size, i.bytes)) = some (some (.agg #[.int .i64 0, .int .i64 0, .string ⟨#[]⟩, .int .i64 0, .slice none 0 0]), 5, 64) := by kernel_rfl
end Go.Proofs.YtleoeccjnchclaaDoor
