/- Outs that are written into: what stands while they are. No condition but sizes. -/
import Derived.Test.YtleoeccjnchclaaGreatDoorZbe
import Derived.StillTailTactics
import Derived.Deep.AppendLies
import Derived.Laws.OwnMore
import Derived.Laws.MakeOwn
import Derived.ChangeSame
namespace Go.Proofs.YtleoeccjnchclaaGreatDoor
open Go.RowKit
/-- no block of these elements changes its size -/
def SizeKept (e : TypeId) (w w' : World) : Prop := ∀ (g : Nat) (cur : Array Value), w.heap[g]? = some (.cells cur e (0, 0)) → ∃ cur', w'.heap[g]? = some (.cells cur' e (0, 0)) ∧ cur'.size = cur.size
theorem SizeKept.refl (e : TypeId) (w : World) : SizeKept e w w := fun g cur h => ⟨cur, h, rfl⟩
theorem SizeKept.trans {e : TypeId} {w w1 w2 : World} (h : SizeKept e w w1) (h' : SizeKept e w1 w2) : SizeKept e w w2 := fun g cur hc => by
  obtain ⟨c1, h1, h2⟩ := h g cur hc
  obtain ⟨c2, h3, h4⟩ := h' g c1 h1
  exact ⟨c2, h3, h4.trans h2⟩
theorem SizeKept.alloc (e : TypeId) (w : World) (o : Obj) : SizeKept e w (w.alloc o) := fun g cur h => by
  have hg := (Array.getElem?_eq_some_iff.1 h).1
  exact ⟨cur, (Below.heap_alloc w o g hg).trans h, rfl⟩
theorem SizeKept.drew (e : TypeId) (w : World) : SizeKept e w w.drew := fun g cur h => ⟨cur, h, rfl⟩
theorem SizeKept.setCell (e : TypeId) (w : World) (b i : Nat) (x : Value) : SizeKept e w (w.setCell ⟨b, i, none⟩ x) := fun g cur h => by
  by_cases hgb : g = b
  · subst hgb
    exact ⟨_, heap_setCell_same w g i _ _ x h, by simp⟩
  · exact ⟨cur, ((Fr.setCell w ⟨b, i, none⟩ x).block g (Array.getElem?_eq_some_iff.1 h).1 (fun e => hgb e)).trans h, rfl⟩
theorem append_size {P : Program} {w : World} {base : Nat} (t ty e : TypeId) (i : TypeInfo) (z : Value) (ht : P.underlying t = some (.slice e)) (hi : P.info? e = some i) (hz : i.zero = some z)
    {v : Value} {n : Nat} {xs : List Value} (hown : w.ownsRow base e i.size v n xs)
    (a : Addr) (m c : Nat) (news : List Value) (hl : news.length = m * i.size) (hnews : ∀ j u, news[j]? = some u → w.cell? (a.add j) = some u) (h1 : ∀ u ∈ news, u.oneCell' = true)
    (h63 : n + m ≤ maxLen) (hbytes : (n + m) * i.bytes ≤ 140737488355328) {v' : Value} {w' : World} (hr : (Builtin.append_ #[t, t] ty #[v, .slice (some a) m c]).run P w = .ok v' w') : SizeKept e w w' := by
  have h63' : n + m ≤ 9223372036854775807 := by unfold maxLen at h63; omega
  rcases hown.2 with ⟨rfl, rfl⟩ | ⟨g0, cap, cur, rfl, hbg, hgg, hnc, hcm, hcs, htake⟩
  · by_cases hm : m = 0
    · subst hm
      have hr2 : (Builtin.append_ #[t, t] ty #[.slice none 0 0, .slice (some a) 0 c]).run P w = .ok (.slice none 0 0) w := by
        have hf := run_firstCells_some (P := P) w i.size 0 a 0 c news (by simpa using hl) hnews
        simp [Builtin.append_, run_underlying ht, sizeOf, typeInfo, hi, Builtin.lenOf, hf, Result.andThen]
      rw [hr] at hr2
      simp only [Result.ok.injEq] at hr2
      rw [hr2.2]
      exact SizeKept.refl _ _
    · have hr2 := run_append_nil (P := P) w t ty e i z ht hi hz a m c news hl hnews (by omega) (by omega) (by have hb := hbytes; simp only [Nat.zero_add] at hb; omega)
      rw [hr] at hr2
      simp only [Result.ok.injEq] at hr2
      rw [hr2.2]
      exact (SizeKept.drew e w).trans (SizeKept.alloc e _ _)
  · by_cases hroom : n + m ≤ cap
    · have hfit : n * i.size + news.length ≤ cur.size := by rw [hl, hcs, ← Nat.add_mul]; exact Nat.mul_le_mul_right _ hroom
      have hr2 := run_append_room (P := P) w t ty e i ht hi g0 n cap cur hgg a m c news hl hnews h1 hroom hfit
      rw [hr] at hr2
      simp only [Result.ok.injEq] at hr2
      rw [hr2.2]
      intro g cur2 hg2
      by_cases hgg0 : g = g0
      · subst hgg0
        rw [hgg] at hg2
        simp only [Option.some.injEq, Obj.cells.injEq] at hg2
        refine ⟨_, setRow_heap w g cur _ _ _ hgg, ?_⟩
        rw [← hg2.1]
        simp
        omega
      · exact ⟨cur2, (setRow_other w g0 g _ hgg0).trans hg2, rfl⟩
    · have hr2 := run_append_grow (P := P) w t ty e i z ht hi hz ⟨g0, 0, none⟩ n cap xs hown.1 (hown.cells (g := g0) rfl) a m c news hl hnews (by omega) (by omega) (growslice_fits (by omega) hbytes)
      rw [hr] at hr2
      simp only [Result.ok.injEq] at hr2
      rw [hr2.2]
      exact (SizeKept.drew e w).trans (SizeKept.alloc e _ _)
section
variable {P : Program} {w : World}
/-- what append hands back lies where the slice lay, or in a new block -/
theorem append_keeps (base : Nat) (t ty e : TypeId) (i : TypeInfo) (z : Value) (size bytes : Nat) (ht : P.underlying t = some (.slice e)) (hi : P.info? e = some i) (hz : i.zero = some z)
    (hsize : i.size = size) (hby : i.bytes = bytes) (hzs : z.cells.size = size) (hsz : 0 < size)
    (v : Value) (n : Nat) (xs : List Value) (hown : w.ownsRow base e size v n xs)
    (a : Addr) (m c : Nat) (news : List Value) (hl : news.length = m * size) (hnews : ∀ j u, news[j]? = some u → w.cell? (a.add j) = some u) (h1 : ∀ u ∈ news, u.oneCell' = true)
    (h63 : n + m ≤ maxLen) (hbytes : (n + m) * bytes ≤ 140737488355328) (hbase : base ≤ w.heap.size) :
    ∃ v' w', (Builtin.append_ #[t, t] ty #[v, .slice (some a) m c]).run P w = .ok v' w' ∧ w'.ownsRow base e size v' (n + m) (xs ++ news) ∧ w.grownBy w' v.ownBlock ∧
      (∀ g, v'.ownBlock = some g → v.ownBlock = some g ∨ w.heap.size ≤ g) ∧ SizeKept e w w' := by
  obtain ⟨v', w', hr, h2, h3, h4⟩ := run_append_own (P := P) w base t ty e i z size bytes ht hi hz hsize hby hzs hsz v n xs hown a m c news hl hnews h1 h63 hbytes hbase
  refine ⟨v', w', hr, h2, h3, fun g hg => ?_, ?_⟩
  case refine_2 => exact append_size t ty e i z ht hi hz (by rw [hsize]; exact hown) a m c news (by rw [hsize]; exact hl) hnews h1 h63 (by rw [hby]; exact hbytes) hr
  have h63' : n + m ≤ 9223372036854775807 := by unfold maxLen at h63; omega
  subst hsize
  subst hby
  rcases hown.2 with ⟨rfl, rfl⟩ | ⟨g0, cap, cur, rfl, hbg, hgg, hnc, hcm, hcs, htake⟩
  · by_cases hm : m = 0
    · rw [h4.2 ⟨rfl, hm⟩] at hg; cases hg
    · have hr2 := run_append_nil (P := P) w t ty e i z ht hi hz a m c news hl hnews (by omega) (by omega) (by have hb := hbytes; simp only [Nat.zero_add] at hb; omega)
      rw [hr] at hr2
      simp only [Result.ok.injEq] at hr2
      rw [hr2.1] at hg
      cases hg
      exact .inr (Nat.le_refl _)
  · by_cases hroom : n + m ≤ cap
    · have hr2 := run_append_room (P := P) w t ty e i ht hi g0 n cap cur hgg a m c news hl hnews h1 hroom (by rw [hl, hcs, ← Nat.add_mul]; exact Nat.mul_le_mul_right _ hroom)
      rw [hr] at hr2
      simp only [Result.ok.injEq] at hr2
      rw [hr2.1] at hg
      cases hg
      exact .inl rfl
    · have hr2 := run_append_grow (P := P) w t ty e i z ht hi hz ⟨g0, 0, none⟩ n cap xs hown.1 (hown.cells (g := g0) rfl) a m c news hl hnews (by omega) (by omega) (growslice_fits (by omega) hbytes)
      rw [hr] at hr2
      simp only [Result.ok.injEq] at hr2
      rw [hr2.1] at hg
      cases hg
      exact .inr (Nat.le_refl _)
/-- append, at a step of a region that draws its order, told with the sizes that stay -/
theorem step_append3 {P : Program} {w : World} {ops : Array Oper} {o : Oper} {a : Act} {K : Act → World → Prop} {Q : Exit → Act → World → Prop} {E : Prop} (hgd : o.guard = none) (s x : Operand) (t : TypeId)
    (ho : o.op = .call { callee := .builtin .append, args := #[s, x], argTypes := #[t, t] })
    (base : Nat) (e : TypeId) (i : TypeInfo) (z : Value) (size bytes : Nat) (ht : P.underlying t = some (.slice e)) (hi : P.info? e = some i) (hz : i.zero = some z)
    (hsize : i.size = size) (hby : i.bytes = bytes) (hzs : z.cells.size = size) (hsz : 0 < size)
    (v : Value) (n : Nat) (xs : List Value) (hs : a.eval s = v) (hown : w.ownsRow base e size v n xs)
    (ad : Addr) (m cap : Nat) (news : List Value) (hx : a.eval x = .slice (some ad) m cap) (hl : news.length = m * size) (hcells : ∀ j u, news[j]? = some u → w.cell? (ad.add j) = some u) (h1 : ∀ u ∈ news, u.oneCell' = true)
    (h63 : n + m ≤ maxLen) (hbytes : (n + m) * bytes ≤ 140737488355328) (hbase : base ≤ w.heap.size)
    (h : ∀ v' w', w'.ownsRow base e size v' (n + m) (xs ++ news) → w.grownBy w' v.ownBlock → (∀ g, v'.ownBlock = some g → v.ownBlock = some g ∨ w.heap.size ≤ g) → SizeKept e w w' → K (a.put o.dst v') w') :
    if Region.wanted o (yielded ops a.tmps) = true then Oper.wp P o a w K Q else E := by
  have hw : Region.wanted o (yielded ops a.tmps) = true := by simp [Region.wanted, hgd]
  rw [if_pos hw]
  obtain ⟨v', w', hr, h2, h3, h4, h5⟩ := append_keeps (P := P) (w := w) base t o.type e i z size bytes ht hi hz hsize hby hzs hsz v n xs hown ad m cap news hl hcells h1 h63 hbytes hbase
  have hg := h v' w' h2 h3 h4 h5
  unfold Oper.wp
  simp [execOp, ho, resolve, invoke, builtin, hs, hx, hr, Result.andThen]
  exact hg
end
theorem row_kept {w w' : World} {B n sz : Nat} {e : TypeId} {v : Value} {xs : List Value} (h : w.ownsRow B e sz v n xs) (hk : SizeKept e w w') : ∃ ys, w'.ownsRow B e sz v n ys := by
  obtain ⟨h1, ⟨rfl, h0⟩ | ⟨g, cap, cur, rfl, hb, hg, hnc, hcm, hcs, htake⟩⟩ := h
  · subst h0; exact ⟨[], World.ownsRow_nil _ _ _ _⟩
  · obtain ⟨cur', h3, h4⟩ := hk g cur hg
    exact ⟨cur'.toList.take (n * sz), by rw [List.length_take, Array.length_toList, h4, hcs]; exact Nat.min_eq_left (Nat.mul_le_mul_right _ hnc), .inr ⟨g, cap, cur', rfl, hb, h3, hnc, hcm, by rw [h4, hcs], rfl⟩⟩
theorem kept_other {w w' : World} {B n sz : Nat} {e e' : TypeId} {v : Value} {xs : List Value} (h : w.ownsRow B e sz v n xs) (hf : Fr (fun k => v.ownBlock = some k) w w') (he : e ≠ e') : SizeKept e' w w' := fun g cur hg => by
  refine ⟨cur, (hf.block g (Array.getElem?_eq_some_iff.1 hg).1 (fun hv => ?_)).trans hg, rfl⟩
  rcases h.2 with ⟨rfl, _⟩ | ⟨g0, cap, cur0, rfl, _, hgg, _⟩
  · cases hv
  · cases hv
    rw [hgg] at hg
    simp only [Option.some.injEq, Obj.cells.injEq] at hg
    exact he hg.2.1
theorem newcells {w : World} {B g j c : Nat} {zs : List Value} (h : w.ownsRow B 49 4 (.slice (some ⟨g, 0, none⟩) (j + 1) c) (j + 1) (zs ++ [.int .i64 0, .string ⟨#[]⟩, .int .i64 0, .slice none 0 0])) (hz : zs.length = j * 4) :
    w.cell? ⟨g, j * 4, none⟩ = some (.int .i64 0) ∧ w.cell? ⟨g, j * 4 + 1, none⟩ = some (.string ⟨#[]⟩) ∧ w.cell? ⟨g, j * 4 + 2, none⟩ = some (.int .i64 0) ∧ w.cell? ⟨g, j * 4 + 3, none⟩ = some (.slice none 0 0) := by
  have f : ∀ (y : Nat) (u : Value), y < 4 → ([Value.int .i64 0, .string ⟨#[]⟩, .int .i64 0, .slice none 0 0])[y]? = some u → w.cell? ⟨g, j * 4 + y, none⟩ = some u := fun y u hy hu => by
    rw [h.cellAt (j * 4 + y) (by omega), List.getElem?_append_right (by omega), hz, Nat.add_sub_cancel_left]
    exact hu
  exact ⟨f 0 _ (by decide) rfl, f 1 _ (by decide) rfl, f 2 _ (by decide) rfl, f 3 _ (by decide) rfl⟩
/-- outs that are written into, from one of them on -/
structure SpA (w : World) (A U : Nat) (g c n i : Nat) : Prop where
  row : ∃ xs, w.ownsRow A 51 5 (.slice (some ⟨g, 0, none⟩) n c) n xs
  lt : g < U
  each : ∀ j, i ≤ j → j < n → ∃ (u : Value) (m : Nat) (ys : List Value), w.cell? ⟨g, j * 5 + 4, none⟩ = some u ∧ w.ownsRow A 49 4 u m ys ∧ (∀ b, u.ownBlock = some b → b < U) ∧ m ≤ 1048576
theorem SpA.kept {w w' : World} {A U g c n i i' : Nat} (h : SpA w A U g c n i) (hO : SizeKept 51 w w') (hR : SizeKept 49 w w') (hi : i ≤ i') (hc : ∀ j, i' ≤ j → j < n → w'.cell? ⟨g, j * 5 + 4, none⟩ = w.cell? ⟨g, j * 5 + 4, none⟩) : SpA w' A U g c n i' := by
  obtain ⟨⟨xs, hx⟩, h2, h3⟩ := h
  refine ⟨row_kept hx hO, h2, fun j h4 h5 => ?_⟩
  obtain ⟨u, m, ys, k1, k2, k3, k4⟩ := h3 j (by omega) h5
  obtain ⟨zs, hz⟩ := row_kept k2 hR
  exact ⟨u, m, zs, (hc j h4 h5).trans k1, hz, k3, k4⟩
theorem spA_of {w : World} {A : Nat} {a : Option Addr} {c : Nat} {O : List Ot} (h : OutsAt w A (.slice a O.length c) O) (hO : ∀ o ∈ O, o.2.length ≤ 1048576) (hn : 0 < O.length) : ∃ g, a = some ⟨g, 0, none⟩ ∧ SpA w A w.heap.size g c O.length 0 := by
  have h0 := h
  obtain ⟨vals, h1, h2, h3⟩ := h
  obtain ⟨g, cap, e, hA, hlt⟩ : ∃ g cap, Value.slice a O.length c = .slice (some ⟨g, 0, none⟩) O.length cap ∧ A ≤ g ∧ g < w.heap.size := by
    rcases h2.2 with ⟨_, h5⟩ | ⟨g, cap, cur, e, hb, hg, _⟩
    · omega
    · exact ⟨g, cap, e, hb, (Array.getElem?_eq_some_iff.1 hg).1⟩
  cases e
  refine ⟨g, rfl, ⟨_, h2⟩, hlt, fun j _ hj => ?_⟩
  obtain ⟨g', off, ua, uc, e, _, _, _, _, x4, hr⟩ := out_at h0 j hj
  cases e
  exact ⟨_, _, _, (by rw [Nat.zero_add] at x4; exact x4), hr, fun b hb => (ow_lt hr b hb).2, hO _ (List.getElem_mem hj)⟩
theorem OutsAt.hi {w w' : World} {B : Nat} {v : Value} {outs : List Ot} {T : Nat → Prop} (h : OutsAt w B v outs) (hf : Fr T w w') (hT : ∀ g, T g → g < B) : OutsAt w' B v outs := by
  obtain ⟨vals, h1, h2, h3⟩ := h
  exact ⟨vals, h1, ow_frT h2 hf (fun g hg ht => by have := (ow_lt h2 g hg).1; have := hT g ht; omega), fun i o u a b => ow_frT (h3 i o u a b) hf (fun g hg ht => by have := (ow_lt (h3 i o u a b) g hg).1; have := hT g ht; omega)⟩
theorem OutsAt.lo {w0 w w' : World} {B : Nat} {v : Value} {outs : List Ot} {T : Nat → Prop} (h : OutsAt w0 B v outs) (hq : Fr (fun _ => False) w0 w) (hf : Fr T w w') (hT : ∀ g, T g → w0.heap.size ≤ g) : OutsAt w' B v outs := by
  obtain ⟨vals, h1, h2, h3⟩ := h
  exact ⟨vals, h1, ow_frT (ow_frT h2 hq (fun _ _ h => h)) hf (fun g hg ht => by have := (ow_lt h2 g hg).2; have := hT g ht; omega), fun i o u a b => ow_frT (ow_frT (h3 i o u a b) hq (fun _ _ h => h)) hf (fun g hg ht => by have := (ow_lt (h3 i o u a b) g hg).2; have := hT g ht; omega)⟩
/-- cells written in two blocks -/
structure Tr (g g8 i : Nat) (w w' : World) : Prop where
  kept : ∀ e, SizeKept e w w'
  fr : Fr (fun k => k = g8 ∨ k = g) w w'
  hi : ∀ y, (i + 1) * 5 ≤ y → w'.cell? ⟨g, y, none⟩ = w.cell? ⟨g, y, none⟩
theorem Tr.refl (g g8 i : Nat) (w : World) : Tr g g8 i w w := ⟨fun e => SizeKept.refl e w, Fr.refl _ _, fun _ _ => rfl⟩
theorem cell_set_ne (w : World) (g x y : Nat) (u : Value) (h : x ≠ y) : (w.setCell ⟨g, x, none⟩ u).cell? ⟨g, y, none⟩ = w.cell? ⟨g, y, none⟩ := World.cell?_setCell_other w ⟨g, x, none⟩ ⟨g, y, none⟩ u (fun e => h (by cases e; rfl))
theorem Tr.set8 {g g8 i : Nat} {w w' : World} (h : Tr g g8 i w w') (hne : g8 ≠ g) (x : Nat) (u : Value) : Tr g g8 i w (w'.setCell ⟨g8, x, none⟩ u) :=
  ⟨fun e => (h.kept e).trans (SizeKept.setCell e w' g8 x u), h.fr.wide (Fr.setCell w' ⟨g8, x, none⟩ u) (fun k hk => .inl (.inl hk)), fun y hy => (World.cell?_setCell_other w' ⟨g8, x, none⟩ ⟨g, y, none⟩ u (fun e => hne (by cases e; rfl))).trans (h.hi y hy)⟩
theorem Tr.setg {g g8 i : Nat} {w w' : World} (h : Tr g g8 i w w') (x : Nat) (u : Value) (hx : x < (i + 1) * 5) : Tr g g8 i w (w'.setCell ⟨g, x, none⟩ u) :=
  ⟨fun e => (h.kept e).trans (SizeKept.setCell e w' g x u), h.fr.wide (Fr.setCell w' ⟨g, x, none⟩ u) (fun k hk => .inl (.inr hk)), fun y hy => (cell_set_ne w' g x y u (by omega)).trans (h.hi y hy)⟩
theorem SpA.tr {w8 wx : World} {A U g c n i g8 : Nat} (h : SpA w8 A U g c n (i + 1)) (t : Tr g g8 i w8 wx) : SpA wx A U g c n (i + 1) := h.kept (t.kept _) (t.kept _) (Nat.le_refl _) (fun y h1 h2 => t.hi _ (by omega))
theorem tr_fin {wE w8 wx : World} {A U g c n i g8 : Nat} (h : SpA w8 A U g c n (i + 1)) (hf : Fr (fun i => A ≤ i ∧ i < U) wE w8) (h8 : (A ≤ g8 ∧ g8 < U) ∨ wE.heap.size ≤ g8) (hg : A ≤ g ∧ g < U) (t : Tr g g8 i w8 wx) : SpA wx A U g c n (i + 1) ∧ Fr (fun i => A ≤ i ∧ i < U) wE wx :=
  ⟨h.tr t, hf.wide t.fr (fun b hb => by rcases hb with rfl | rfl; exact h8; exact .inl hg)⟩
theorem Fr.cellEq {S : Nat → Prop} {w w' : World} (h : Fr S w w') {g : Nat} (hg : g < w.heap.size) (hS : ¬ S g) (y : Nat) : w'.cell? ⟨g, y, none⟩ = w.cell? ⟨g, y, none⟩ := World.cell?_of_block (h.block g hg hS)
theorem spa_append {wp w8 : World} {A U g c n i q uc : Nat} {ua : Option Addr} {zs : List Value} {o : Obj} (h : SpA wp A U g c n (i + 1)) (hz : (wp.alloc o).drew.ownsRow A 49 4 (.slice ua q uc) q zs) (hg : (wp.alloc o).drew.grownBy w8 (Value.slice ua q uc).ownBlock) (hk : SizeKept 49 (wp.alloc o).drew w8) : SpA w8 A U g c n (i + 1) := by
  obtain ⟨xs, hx⟩ := h.row
  have hgl := (ow_lt hx g rfl).2
  have hq : Fr (fun _ => False) wp (wp.alloc o).drew := (Fr.alloc (fun _ => False) wp o).thenDrew
  have hx2 := ow_frT hx hq (fun _ _ h => h)
  have k : ∀ e, SizeKept e wp (wp.alloc o).drew := fun e => (SizeKept.alloc e wp o).trans (SizeKept.drew e _)
  refine h.kept ((k _).trans (kept_other hz (Fr.of_grownBy hg) (by decide))) ((k _).trans hk) (Nat.le_refl _) (fun y h1 h2 => ?_)
  exact ((Fr.of_grownBy hg).cellEq (Nat.lt_of_lt_of_le hgl hq.size) (fun e => rows_apart hx2 hz (by decide) g rfl e) _).trans (hq.cellEq hgl (fun h => h) _)
end Go.Proofs.YtleoeccjnchclaaGreatDoor
