/- What the walks of ScanOnce, ScanMisses and ScanTells keep. No condition. -/
import Derived.Test.YtkecipdonamjaaaScanG
namespace Go.Proofs.Ytkecipdonamjaaa
open Go.ChangeShapes Go.WideShapes Go.ChangeAt Go.RowKit Di
structure Dc (K : Nat) (w0 w : World) (d : Nat) (M : DM) (L : Pl) : Prop where
  dat : DAt w d M
  like : Like M L
  base : ∀ k, Bs (dictL d M) k → w0.heap.size ≤ k
  bel : Below w0.heap.size w0 w
  lens : Lens M K
section
variable {K : Nat} {w0 w w' : World} {d : Nat} {M M' : DM} {L L' : Pl}
theorem Dc.turn (h : Dc K w0 w d M L) (t : Turn w d M w' M') (l : Like M' L') (s : SL M M') (hn : L.length ≤ K) : Dc K w0 w' d M' L' :=
  ⟨t.at_, l, fun k hk => (t.bs k hk).elim (h.base k) (fun hl => Nat.le_trans h.bel.size hl), h.bel.trans (t.fr.below h.bel.size h.base), s.2 K h.lens (by rw [h.like.count]; exact hn)⟩
theorem Dc.quiet (h : Dc K w0 w d M L) (hf : Fr (fun _ => False) w w') : Dc K w0 w' d M L :=
  ⟨h.dat.fr hf (fun _ _ h => h), h.like, h.base, h.bel.trans (hf.below h.bel.size (fun _ h => h.elim)), h.lens⟩
theorem Dc.grown (h : Dc K w0 w d M L) {v : Value} {B n : Nat} {xs : List Value} (hr : w.ownsRow B 9 1 v n xs) (hB : w0.heap.size ≤ B) (hg : w.grownBy w' v.ownBlock) : Dc K w0 w' d M L := by
  have hf := Fr.of_grownBy hg
  exact ⟨h.dat.fr hf (fun k hk e => row_apart h.dat hr (by decide) k e hk), h.like, h.base, h.bel.trans (hf.below h.bel.size (fun i hi => Nat.le_trans hB (hr.lt i hi).1)), h.lens⟩
end
theorem changeL_len (o : Ch) (L : Pl) : (changeL o L).length ≤ L.length + 1 := by
  unfold changeL setL delL
  split
  · split <;> simp
  · split
    · split
      · simp; omega
      · omega
    · split <;> simp
theorem dc_start {w w1 w2 : World} {d : Nat} {M : DM} {K : Nat} (hb1 : Below w.heap.size w w1) (D0 : DAt w2 d M) (L0 : Like M []) (ho : M.old = []) (hy : M.young = []) (HB0 : Hid (∀ k, Bs (dictL d M) k → w1.heap.size ≤ k)) (hb2 : Below w1.heap.size w1 w2) : Dc K w w2 d M [] :=
  ⟨D0, L0, fun k hk => Nat.le_trans hb1.size (HB0.out k hk), hb1.trans (hb2.mono hb1.size), by unfold Lens; rw [ho, hy]; simp⟩
theorem max3 {P : Program} (w : World) (ts : Array TypeId) (t : TypeId) (x y z : Int) : (Builtin.max_ ts t #[.int .i64 x, .int .i64 y, .int .i64 z]).run P w = .ok (.int .i64 (max (max x y) z)) w := by
  have e : ∀ x y : Int, (if y > x then y else x) = max x y := fun x y => by
    rw [Int.max_def]
    split <;> split <;> omega
  simp [Builtin.max_, Builtin.max2, e]
theorem fold_cursor (x3 x4 : UInt64) (T g : Nat) (hT : T = 2 ^ g) (hg : g ≤ 60) :
    ∃ c : UInt64, IntKind.u64.wrap ((x3.toNat : Int) % (T : Int) + IntKind.u64.wrap (IntKind.u64.wrap ((wd x4).tdiv (T : Int)) * (T : Int))) = wd c ∧ c.toNat % T = x3.toNat % T := by
  have hp : 0 < T := by rw [hT]; exact Nat.two_pow_pos g
  have h1 : (wd x4).tdiv (T : Int) = ((x4.toNat / T : Nat) : Int) := by
    show ((x4.toNat : Nat) : Int).tdiv (T : Int) = _
    rw [Int.tdiv_eq_ediv_of_nonneg (by omega)]
    rfl
  have hlt := x4.toNat_lt
  have e64 : 2 ^ (64 - g) * T = 18446744073709551616 := by
    rw [hT, ← Nat.pow_add, Nat.sub_add_cancel (by omega)]
  have hq : x4.toNat / T < 2 ^ (64 - g) := by rw [Nat.div_lt_iff_lt_mul hp, e64]; exact hlt
  have hql : x4.toNat / T ≤ x4.toNat := Nat.div_le_self _ _
  obtain ⟨q, hqe⟩ : ∃ q, x4.toNat / T = q := ⟨_, rfl⟩
  rw [hqe] at h1 hq hql
  have hqT : q * T + T ≤ 18446744073709551616 := by
    rw [← e64, show q * T + T = (q + 1) * T by rw [Nat.add_mul, Nat.one_mul]]
    exact Nat.mul_le_mul_right _ hq
  have hr : x3.toNat % T < T := Nat.mod_lt _ hp
  have h2 : (x3.toNat : Int) % (T : Int) = ((x3.toNat % T : Nat) : Int) := rfl
  obtain ⟨r, hre⟩ : ∃ r, x3.toNat % T = r := ⟨_, rfl⟩
  rw [h2, h1, hre]
  rw [hre] at hr
  have h3 : (q : Int) * (T : Int) = ((q * T : Nat) : Int) := rfl
  obtain ⟨z, hz⟩ : ∃ z, q * T = z := ⟨_, rfl⟩
  rw [hz] at h3 hqT
  rw [IntWalk.u64_in (q : Int) (by omega), h3, IntWalk.u64_in (z : Int) (by omega), IntWalk.u64_in _ (by omega)]
  have hs : r + z < 18446744073709551616 := by omega
  refine ⟨UInt64.ofNat (r + z), ?_, ?_⟩
  · rw [wd_nat _ hs]; rfl
  · rw [u64_nat _ hs, ← hz, Nat.add_mul_mod_self_right, Nat.mod_eq_of_lt hr]
theorem most_pow {M : DM} (h : Inv M) (ho : M.old.length ≤ 35184372088832) (hy : M.young.length ≤ 35184372088832) : ∃ g, max (max M.old.length M.young.length) 1 = 2 ^ g ∧ g ≤ 60 := by
  by_cases hne : M.old = []
  · have hy : M.young = [] := by
      by_cases hy : M.young = []
      · exact hy
      · have := h.moving hy; rw [hne] at this; simp at this
    exact ⟨0, by rw [hne, hy]; rfl, by omega⟩
  · have T := tabs h hne 1
    have hb := great_bound ho hy T.great
    refine ⟨_, ?_, Nat.le_trans hb (by decide)⟩
    · rw [← T.great]
      have h1 := T.great
      have h2 := Nat.two_pow_pos (scanT M 1).g
      rw [← h1] at h2
      unfold greatM at h2 ⊢
      split <;> simp_all <;> omega
/-- among the first ones, each once -/
theorem not_before {l : List ByteArray} (h : l.Nodup) (k : Nat) (hk : k < l.length) : inL (l.take k) l[k] = false := by
  rw [inL_not]
  intro hm
  obtain ⟨i, hi, e⟩ := List.getElem_of_mem hm
  rw [List.length_take] at hi
  rw [List.getElem_take] at e
  have := (List.getElem_inj h).1 e
  omega
end Go.Proofs.Ytkecipdonamjaaa
