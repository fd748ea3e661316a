/- Two dicts of whole numbers in memory, apart from each other. No condition; no program of its own. -/
import Derived.Test.YtkecipdonamjaaaSteps
namespace Go.Proofs.Ytkecipdonamjaaa
open Go.RowKit Di

/-- two dicts in memory, apart from each other, both in blocks from B on -/
structure Two (B : Nat) (w : World) (d : Nat) (M : DM) (e : Nat) (N : DM) : Prop where
  one : DAt w d M
  two : DAt w e N
  dis : ∀ k, Bs (dictL d M) k → ¬ Bs (dictL e N) k
  base1 : ∀ k, Bs (dictL d M) k → B ≤ k
  base2 : ∀ k, Bs (dictL e N) k → B ≤ k
  le : B ≤ w.heap.size
theorem Two.left {B : Nat} {w w' : World} {d e : Nat} {M M' N : DM} (h : Two B w d M e N) (t : Turn w d M w' M') : Two B w' d M' e N :=
  ⟨t.at_, h.two.fr t.fr (fun k hk hs => h.dis k hs hk), fun k hk hn => (t.bs k hk).elim (fun hb => h.dis k hb hn) (fun hl => by have := h.two.rep.lt hn; omega),
    fun k hk => (t.bs k hk).elim (h.base1 k) (fun hl => Nat.le_trans h.le hl), h.base2, Nat.le_trans h.le t.fr.size⟩
theorem Two.right {B : Nat} {w w' : World} {d e : Nat} {M N N' : DM} (h : Two B w d M e N) (t : Turn w e N w' N') : Two B w' d M e N' :=
  ⟨h.one.fr t.fr (fun k hk hs => h.dis k hk hs), t.at_, fun k hk hn => (t.bs k hn).elim (fun hb => h.dis k hk hb) (fun hl => by have := h.one.rep.lt hk; omega),
    h.base1, fun k hk => (t.bs k hk).elim (h.base2 k) (fun hl => Nat.le_trans h.le hl), Nat.le_trans h.le t.fr.size⟩
theorem Two.other {B : Nat} {w w' : World} {d e : Nat} {M N : DM} (h : Two B w d M e N) {S : Nat → Prop} (hf : Fr S w w') (hd : ∀ k, Bs (dictL d M) k → ¬ S k) (he : ∀ k, Bs (dictL e N) k → ¬ S k) : Two B w' d M e N :=
  ⟨h.one.fr hf hd, h.two.fr hf he, h.dis, h.base1, h.base2, Nat.le_trans h.le hf.size⟩
theorem Two.bel1 {B : Nat} {w w' : World} {d e : Nat} {M M' N : DM} (h : Two B w d M e N) (t : Turn w d M w' M') : Below B w w' := t.fr.below h.le h.base1
theorem Two.bel2 {B : Nat} {w w' : World} {d e : Nat} {M N N' : DM} (h : Two B w d M e N) (t : Turn w e N w' N') : Below B w w' := t.fr.below h.le h.base2
/-- a second new dict beside a first one -/
theorem two_start {w w1 w2 w3 : World} {d e : Nat} {M N : DM} (hb1 : Below w.heap.size w w1) (D : DAt w2 d M) (HD : ∀ k, Bs (dictL d M) k → w1.heap.size ≤ k) (hb2 : Below w1.heap.size w1 w2)
    (E : DAt w3 e N) (HE : ∀ k, Bs (dictL e N) k → w2.heap.size ≤ k) (hb3 : Below w2.heap.size w2 w3) : Two w.heap.size w3 d M e N ∧ Below w.heap.size w w3 :=
  ⟨⟨D.fr (Fr.of_below hb3) (fun k hk hs => by have := D.rep.lt hk; omega), E, fun k hk hn => by have := D.rep.lt hk; have := HE k hn; omega,
      fun k hk => Nat.le_trans hb1.size (HD k hk), fun k hk => Nat.le_trans hb1.size (Nat.le_trans hb2.size (HE k hk)), Nat.le_trans hb1.size (Nat.le_trans hb2.size hb3.size)⟩,
    (hb1.trans (hb2.mono hb1.size)).trans (hb3.mono (Nat.le_trans hb1.size hb2.size))⟩
end Go.Proofs.Ytkecipdonamjaaa
