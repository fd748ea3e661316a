/- pantrylaw26's spoilTexts: it writes in its own block and in new memory alone, and no block of texts changes its size. No condition. -/
import Derived.Test.YtpcjogmikgfgdaaQryC
import Derived.Laws.MakeOwn
import Derived.ChangeSame
namespace Go.Proofs.Ytpcjogmikgfgdaa
open Go.RowKit
/-- no block of these elements changes its size -/
def SizeKept (e : TypeId) (w w' : World) : Prop := ∀ (g : Nat) (cur : Array Value), w.heap[g]? = some (.cells cur e (0, 0)) → ∃ cur', w'.heap[g]? = some (.cells cur' e (0, 0)) ∧ cur'.size = cur.size
theorem SizeKept.refl (e : TypeId) (w : World) : SizeKept e w w := fun g cur h => ⟨cur, h, rfl⟩
theorem SizeKept.trans {e : TypeId} {w w1 w2 : World} (h : SizeKept e w w1) (h' : SizeKept e w1 w2) : SizeKept e w w2 := fun g cur hc => by
  obtain ⟨c1, h1, h2⟩ := h g cur hc
  obtain ⟨c2, h3, h4⟩ := h' g c1 h1
  exact ⟨c2, h3, h4.trans h2⟩
theorem SizeKept.alloc (e : TypeId) (w : World) (o : Obj) : SizeKept e w (w.alloc o) := fun g cur h => by
  have hg := (Array.getElem?_eq_some_iff.1 h).1
  exact ⟨cur, (Below.heap_alloc w o g hg).trans h, rfl⟩
theorem SizeKept.drew (e : TypeId) (w : World) : SizeKept e w w.drew := fun g cur h => ⟨cur, h, rfl⟩
theorem SizeKept.setCell (e : TypeId) (w : World) (b i : Nat) (x : Value) : SizeKept e w (w.setCell ⟨b, i, none⟩ x) := fun g cur h => by
  by_cases hgb : g = b
  · subst hgb
    exact ⟨_, heap_setCell_same w g i _ _ x h, by simp⟩
  · exact ⟨cur, ((Fr.setCell w ⟨b, i, none⟩ x).block g (Array.getElem?_eq_some_iff.1 h).1 (fun e => hgb e)).trans h, rfl⟩
/-- a row whose cells are not told -/
def LRow (w : World) (B : Nat) (e : TypeId) (v : Value) (n : Nat) : Prop := ∃ xs, w.ownsRow B e 1 v n xs
theorem LRow.kept {w w' : World} {B n : Nat} {e : TypeId} {v : Value} (h : LRow w B e v n) (hk : SizeKept e w w') : LRow w' B e v n := by
  obtain ⟨xs, h1, ⟨rfl, h0⟩ | ⟨g, cap, cur, rfl, hb, hg, hnc, hcm, hcs, htake⟩⟩ := h
  · subst h0; exact ⟨[], World.ownsRow_nil _ _ _ _⟩
  · obtain ⟨cur', h3, h4⟩ := hk g cur hg
    exact ⟨cur'.toList.take n, by rw [List.length_take, Array.length_toList, h4, hcs]; omega, .inr ⟨g, cap, cur', rfl, hb, h3, hnc, hcm, by rw [h4, hcs], by rw [Nat.mul_one]⟩⟩
theorem append_size {P : Program} {w : World} {base : Nat} (t ty e : TypeId) (i : TypeInfo) (z : Value) (ht : P.underlying t = some (.slice e)) (hi : P.info? e = some i) (hz : i.zero = some z)
    {v : Value} {n : Nat} {xs : List Value} (hown : w.ownsRow base e i.size v n xs)
    (a : Addr) (m c : Nat) (news : List Value) (hl : news.length = m * i.size) (hnews : ∀ j u, news[j]? = some u → w.cell? (a.add j) = some u) (h1 : ∀ u ∈ news, u.oneCell' = true)
    (h63 : n + m ≤ maxLen) (hbytes : (n + m) * i.bytes ≤ 140737488355328) {v' : Value} {w' : World} (hr : (Builtin.append_ #[t, t] ty #[v, .slice (some a) m c]).run P w = .ok v' w') : SizeKept e w w' := by
  have h63' : n + m ≤ 9223372036854775807 := by unfold maxLen at h63; omega
  rcases hown.2 with ⟨rfl, rfl⟩ | ⟨g0, cap, cur, rfl, hbg, hgg, hnc, hcm, hcs, htake⟩
  · by_cases hm : m = 0
    · subst hm
      have hr2 : (Builtin.append_ #[t, t] ty #[.slice none 0 0, .slice (some a) 0 c]).run P w = .ok (.slice none 0 0) w := by
        have hf := run_firstCells_some (P := P) w i.size 0 a 0 c news (by simpa using hl) hnews
        simp [Builtin.append_, run_underlying ht, sizeOf, typeInfo, hi, Builtin.lenOf, hf, Result.andThen]
      rw [hr] at hr2
      simp only [Result.ok.injEq] at hr2
      rw [hr2.2]
      exact SizeKept.refl _ _
    · have hr2 := run_append_nil (P := P) w t ty e i z ht hi hz a m c news hl hnews (by omega) (by omega) (by have hb := hbytes; simp only [Nat.zero_add] at hb; omega)
      rw [hr] at hr2
      simp only [Result.ok.injEq] at hr2
      rw [hr2.2]
      exact (SizeKept.drew e w).trans (SizeKept.alloc e _ _)
  · by_cases hroom : n + m ≤ cap
    · have hfit : n * i.size + news.length ≤ cur.size := by rw [hl, hcs, ← Nat.add_mul]; exact Nat.mul_le_mul_right _ hroom
      have hr2 := run_append_room (P := P) w t ty e i ht hi g0 n cap cur hgg a m c news hl hnews h1 hroom hfit
      rw [hr] at hr2
      simp only [Result.ok.injEq] at hr2
      rw [hr2.2]
      intro g cur2 hg2
      by_cases hgg0 : g = g0
      · subst hgg0
        rw [hgg] at hg2
        simp only [Option.some.injEq, Obj.cells.injEq] at hg2
        refine ⟨_, setRow_heap w g cur _ _ _ hgg, ?_⟩
        rw [← hg2.1]
        simp
        omega
      · exact ⟨cur2, (setRow_other w g0 g _ hgg0).trans hg2, rfl⟩
    · have hr2 := run_append_grow (P := P) w t ty e i z ht hi hz ⟨g0, 0, none⟩ n cap xs hown.1 (hown.cells (g := g0) rfl) a m c news hl hnews (by omega) (by omega) (growslice_fits (by omega) hbytes)
      rw [hr] at hr2
      simp only [Result.ok.injEq] at hr2
      rw [hr2.2]
      exact (SizeKept.drew e w).trans (SizeKept.alloc e _ _)
section
variable {P : Program} {w : World}
/-- what append hands back lies where the slice lay, or in a new block -/
theorem append_keeps (base : Nat) (t ty e : TypeId) (i : TypeInfo) (z : Value) (size bytes : Nat) (ht : P.underlying t = some (.slice e)) (hi : P.info? e = some i) (hz : i.zero = some z)
    (hsize : i.size = size) (hby : i.bytes = bytes) (hzs : z.cells.size = size) (hsz : 0 < size)
    (v : Value) (n : Nat) (xs : List Value) (hown : w.ownsRow base e size v n xs)
    (a : Addr) (m c : Nat) (news : List Value) (hl : news.length = m * size) (hnews : ∀ j u, news[j]? = some u → w.cell? (a.add j) = some u) (h1 : ∀ u ∈ news, u.oneCell' = true)
    (h63 : n + m ≤ maxLen) (hbytes : (n + m) * bytes ≤ 140737488355328) (hbase : base ≤ w.heap.size) :
    ∃ v' w', (Builtin.append_ #[t, t] ty #[v, .slice (some a) m c]).run P w = .ok v' w' ∧ w'.ownsRow base e size v' (n + m) (xs ++ news) ∧ w.grownBy w' v.ownBlock ∧
      (∀ g, v'.ownBlock = some g → v.ownBlock = some g ∨ w.heap.size ≤ g) ∧ SizeKept e w w' := by
  obtain ⟨v', w', hr, h2, h3, h4⟩ := run_append_own (P := P) w base t ty e i z size bytes ht hi hz hsize hby hzs hsz v n xs hown a m c news hl hnews h1 h63 hbytes hbase
  refine ⟨v', w', hr, h2, h3, fun g hg => ?_, ?_⟩
  case refine_2 => exact append_size t ty e i z ht hi hz (by rw [hsize]; exact hown) a m c news (by rw [hsize]; exact hl) hnews h1 h63 (by rw [hby]; exact hbytes) hr
  have h63' : n + m ≤ 9223372036854775807 := by unfold maxLen at h63; omega
  subst hsize
  subst hby
  rcases hown.2 with ⟨rfl, rfl⟩ | ⟨g0, cap, cur, rfl, hbg, hgg, hnc, hcm, hcs, htake⟩
  · by_cases hm : m = 0
    · rw [h4.2 ⟨rfl, hm⟩] at hg; cases hg
    · have hr2 := run_append_nil (P := P) w t ty e i z ht hi hz a m c news hl hnews (by omega) (by omega) (by have hb := hbytes; simp only [Nat.zero_add] at hb; omega)
      rw [hr] at hr2
      simp only [Result.ok.injEq] at hr2
      rw [hr2.1] at hg
      cases hg
      exact .inr (Nat.le_refl _)
  · by_cases hroom : n + m ≤ cap
    · have hr2 := run_append_room (P := P) w t ty e i ht hi g0 n cap cur hgg a m c news hl hnews h1 hroom (by rw [hl, hcs, ← Nat.add_mul]; exact Nat.mul_le_mul_right _ hroom)
      rw [hr] at hr2
      simp only [Result.ok.injEq] at hr2
      rw [hr2.1] at hg
      cases hg
      exact .inl rfl
    · have hr2 := run_append_grow (P := P) w t ty e i z ht hi hz ⟨g0, 0, none⟩ n cap xs hown.1 (hown.cells (g := g0) rfl) a m c news hl hnews (by omega) (by omega) (growslice_fits (by omega) hbytes)
      rw [hr] at hr2
      simp only [Result.ok.injEq] at hr2
      rw [hr2.1] at hg
      cases hg
      exact .inr (Nat.le_refl _)
variable {ops : Array Oper} {rest : List Oper} {o : Oper} {a : Act} {Q : Exit → Act → World → Prop}
theorem wpl_append3 (hgd : o.guard = none) (s x : Operand) (t : TypeId) (ho : o.op = .call { callee := .builtin .append, args := #[s, x], argTypes := #[t, t] })
    (base : Nat) (e : TypeId) (i : TypeInfo) (z : Value) (size bytes : Nat) (ht : P.underlying t = some (.slice e)) (hi : P.info? e = some i) (hz : i.zero = some z)
    (hsize : i.size = size) (hby : i.bytes = bytes) (hzs : z.cells.size = size) (hsz : 0 < size)
    (v : Value) (n : Nat) (xs : List Value) (hs : a.eval s = v) (hown : w.ownsRow base e size v n xs)
    (xv : Value) (m : Nat) (news : List Value) (hx : a.eval x = xv) (hrd : RdC w size xv m news) (h1 : ∀ u ∈ news, u.oneCell' = true)
    (h63 : n + m ≤ maxLen) (hbytes : (n + m) * bytes ≤ 140737488355328) (hbase : base ≤ w.heap.size)
    (h : ∀ v' w', w'.ownsRow base e size v' (n + m) (xs ++ news) → w.grownBy w' v.ownBlock → (∀ g, v'.ownBlock = some g → v.ownBlock = some g ∨ w.heap.size ≤ g) → SizeKept e w w' → wpList P ops Q rest (a.put o.dst v') w') : wpList P ops Q (o :: rest) a w := by
  obtain ⟨hl, ad, cap, hxv, hmc, hcm, hnil, hcells⟩ := hrd
  cases ad with
  | some ad =>
    refine wpList_plain hgd fun K hK => ?_
    obtain ⟨v', w', hr, h2, h3, h4, h5⟩ := append_keeps (P := P) (w := w) base t o.type e i z size bytes ht hi hz hsize hby hzs hsz v n xs hown ad m cap news hl (hcells ad rfl) h1 h63 hbytes hbase
    have hg := h v' w' h2 h3 h4 h5
    have he : a.eval x = .slice (some ad) m cap := hx.trans hxv
    unfold Oper.wp
    simp [execOp, ho, resolve, invoke, builtin, hs, he, hr, Result.andThen]
    exact hK _ _ hg
  | none =>
    obtain ⟨rfl, rfl⟩ := hnil rfl
    have hn0 : news = [] := by simpa using hl
    subst hn0
    refine wpList_plain hgd fun K hK => ?_
    have hrun := run_append_owned_none (P := P) (w := w) (base := base) t o.type e i size ht hi v n xs hown
    have hg := h v w (by simpa using hown) ⟨rfl, rfl, rfl, Nat.le_refl _, fun _ _ _ => rfl⟩ (fun g hg => .inl hg) (SizeKept.refl _ _)
    have he : a.eval x = .slice none 0 0 := hx.trans hxv
    unfold Oper.wp
    simp [execOp, ho, resolve, invoke, builtin, hs, he, hrun, Result.andThen]
    exact hK _ _ hg
end
end Go.Proofs.Ytpcjogmikgfgdaa
