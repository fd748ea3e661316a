/- append at a step of a region that draws its order, and where what it hands back lies; parts of an own row. No condition; no program. -/
import Derived.Test.YtleoeccjnchclaaDoorBulks
namespace Go.Proofs.YtleoeccjnchclaaDoor
open Go.RowKit
theorem step_append2 {P : Program} {w : World} {ops : Array Oper} {o : Oper} {a : Act} {K : Act → World → Prop} {Q : Exit → Act → World → Prop} {E : Prop} (hgd : o.guard = none) (s x : Operand) (t : TypeId)
    (ho : o.op = .call { callee := .builtin .append, args := #[s, x], argTypes := #[t, t] })
    (base : Nat) (e : TypeId) (i : TypeInfo) (z : Value) (size bytes : Nat) (ht : P.underlying t = some (.slice e)) (hi : P.info? e = some i) (hz : i.zero = some z)
    (hsize : i.size = size) (hby : i.bytes = bytes) (hzs : z.cells.size = size) (hsz : 0 < size)
    (v : Value) (n : Nat) (xs : List Value) (hs : a.eval s = v) (hown : w.ownsRow base e size v n xs)
    (xv : Value) (m : Nat) (news : List Value) (hx : a.eval x = xv) (hrd : RdC w size xv m news) (h1 : ∀ u ∈ news, u.oneCell' = true)
    (h63 : n + m ≤ maxLen) (hbytes : (n + m) * bytes ≤ 140737488355328) (hbase : base ≤ w.heap.size)
    (h : ∀ v' w', w'.ownsRow base e size v' (n + m) (xs ++ news) → w.grownBy w' v.ownBlock → (∀ g, v'.ownBlock = some g → v.ownBlock = some g ∨ w.heap.size ≤ g) → K (a.put o.dst v') w') :
    if Region.wanted o (yielded ops a.tmps) = true then Oper.wp P o a w K Q else E := by
  have hw : Region.wanted o (yielded ops a.tmps) = true := by simp [Region.wanted, hgd]
  rw [if_pos hw]
  obtain ⟨hl, ad, cap, hxv, hmc, hcm, hnil, hcells⟩ := hrd
  cases ad with
  | some ad =>
    obtain ⟨v', w', hr, h2, h3, -, h4⟩ := run_append_own_at (P := P) w base t o.type e i z size bytes ht hi hz hsize hby hzs hsz v n xs hown ad m cap news hl (hcells ad rfl) h1 h63 hbytes hbase
    have hg := h v' w' h2 h3 (fun g hg => h4.elim (fun q => .inl (by rw [← q]; exact hg)) (fun q => .inr (by rw [q] at hg; cases hg; exact Nat.le_refl _)))
    have he : a.eval x = .slice (some ad) m cap := hx.trans hxv
    unfold Oper.wp
    simp [execOp, ho, resolve, invoke, builtin, hs, he, hr, Result.andThen]
    exact hg
  | none =>
    obtain ⟨rfl, rfl⟩ := hnil rfl
    have hn0 : news = [] := by simpa using hl
    subst hn0
    have hrun := run_append_owned_none (P := P) (w := w) (base := base) t o.type e i size ht hi v n xs hown
    have hg := h v w (by simpa using hown) ⟨rfl, rfl, rfl, Nat.le_refl _, fun _ _ _ => rfl⟩ (fun g hg => .inl hg)
    have he : a.eval x = .slice none 0 0 := hx.trans hxv
    unfold Oper.wp
    simp [execOp, ho, resolve, invoke, builtin, hs, he, hrun, Result.andThen]
    exact hg
theorem own_take {w : World} {B : Nat} {e : TypeId} {a : Option Addr} {n cap : Nat} {xs : List Value} (h : w.ownsRow B e 1 (.slice a n cap) n xs) (k : Nat) (hk : k ≤ n) : w.ownsRow B e 1 (.slice a k cap) k (xs.take k) := by
  obtain ⟨h1, ⟨h2, h3⟩ | ⟨g, c, cur, he, hb, hg, hnc, hcm, hcs, htake⟩⟩ := h
  · cases h2
    obtain rfl : k = 0 := by omega
    exact ⟨by simp, .inl ⟨rfl, rfl⟩⟩
  · cases he
    refine ⟨by rw [List.length_take, h1]; omega, .inr ⟨g, cap, cur, rfl, hb, hg, by omega, hcm, hcs, ?_⟩⟩
    rw [← htake, List.take_take]
    congr 1
    omega
theorem rd_drop {w : World} {g off n cap : Nat} {xs : List Value} (h : RdC w 1 (.slice (some ⟨g, off, none⟩) n cap) n xs) (k : Nat) (hk : k ≤ n) (a' : Option Addr) (ha : a' = some ⟨g, off + k, none⟩ ∨ n - k = 0 ∧ a'.isSome = true) : RdC w 1 (.slice a' (n - k) (cap - k)) (n - k) (xs.drop k) := by
  obtain ⟨h1, a, c, he, h2, h3, h4, h5⟩ := h
  cases he
  refine ⟨by rw [List.length_drop, h1]; omega, _, _, rfl, by omega, by omega, ?_, fun ad had j u hu => ?_⟩
  · intro e; subst e; rcases ha with ha | ⟨_, ha⟩ <;> cases ha
  · rw [List.getElem?_drop] at hu
    have hj : k + j < n := by have := (List.getElem?_eq_some_iff.1 hu).1; omega
    rcases ha with ha | ⟨h0, _⟩
    · rw [ha] at had
      cases had
      have := h5 _ rfl (k + j) u hu
      rw [Addr.add_lit] at this ⊢
      rw [Nat.add_assoc]
      exact this
    · omega
theorem info_int25 : (Tryd.prog.info? 3).map (fun i => (i.zero, i.size, i.bytes)) = some (some (.int .i64 0), 1, 8) := by kernel_rfl
end Go.Proofs.YtleoeccjnchclaaDoor
