/- pantrylaw14's sooner, unlike. No condition. -/
import Derived.Test.YtpcjogmikgfgdaaSameC
import Derived.Test.YtpcjogmikgfgdaaPoolH
import Derived.Deep.AppendLies
import Derived.Outline
namespace Go.Proofs.Ytpcjogmikgfgdaa
open Go.RowKit Go.Sort
set_option maxRecDepth 100000 in
set_option maxHeartbeats 1000000 in
theorem sooner14_any (a b : Cd) (w : World) : Calls Try.prog 48 #[.agg #[.string a.key, .int .u64 a.rank], .agg #[.string b.key, .int .u64 b.rank]] w fun e w' => e = .returned (.bool (decide (ltC a b))) ∧ Fr (fun _ => False) w w' := by
  obtain ⟨r, hr⟩ : ∃ r, decide (ltC a b) = r := ⟨_, rfl⟩
  rw [hr]
  have hlt : r = (decide (a.rank < b.rank) || (decide (a.rank = b.rank) && Op.bytesLess a.key.toList b.key.toList)) := by
    rw [← hr, bytesLess_eq, Bool.eq_iff_iff, decide_eq_true_eq, Bool.or_eq_true, Bool.and_eq_true, decide_eq_true_eq, decide_eq_true_eq, decide_eq_true_eq]
    rfl
  have HL := Lib.hid hlt
  obtain ⟨ka, ra⟩ := a
  obtain ⟨kb, rb⟩ := b
  clear hr hlt
  dsimp only at HL ⊢
  go_enter Try.func48, Try.ntmps48
  by_cases h1 : ra < rb
  · have g1 : decide ((ra : Int) < (rb : Int)) = true := by rw [decide_eq_true_eq]; omega
    have g1n : decide (ra < rb) = true := decide_eq_true h1
    have hrt : r = true := by rw [HL.out, decide_eq_true h1]; rfl
    subst hrt
    clear h1
    go_wp2
    go_ret
    exact ⟨rfl, (Fr.alloc _ _ _).thenAlloc _⟩
  · have g1 : decide ((ra : Int) < (rb : Int)) = false := by rw [decide_eq_false_iff_not]; omega
    have g1n : decide (ra < rb) = false := decide_eq_false h1
    by_cases h2 : ra = rb
    · have g2 : ((ra : Int) == (rb : Int)) = true := by rw [beq_iff_eq]; omega
      have g2n : (ra == rb) = true := beq_iff_eq.2 h2
      have g2d : decide (ra = rb) = true := decide_eq_true h2
      have hrt : r = Op.bytesLess ka.toList kb.toList := by rw [HL.out, decide_eq_false h1, decide_eq_true h2]; rfl
      subst hrt
      clear h1 h2
      go_wp2
      go_ret
      exact ⟨rfl, (Fr.alloc _ _ _).thenAlloc _⟩
    · have g2 : ((ra : Int) == (rb : Int)) = false := by rw [beq_eq_false_iff_ne]; omega
      have g2n : (ra == rb) = false := beq_eq_false_iff_ne.2 h2
      have g2d : decide (ra = rb) = false := decide_eq_false h2
      have hrt : r = false := by rw [HL.out, decide_eq_false h1, decide_eq_false h2]; rfl
      subst hrt
      clear h1 h2
      go_wp2
      go_ret
      exact ⟨rfl, (Fr.alloc _ _ _).thenAlloc _⟩
end Go.Proofs.Ytpcjogmikgfgdaa
