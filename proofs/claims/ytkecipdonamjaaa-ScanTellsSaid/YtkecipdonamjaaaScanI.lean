/- An append that stays apart from other rows; the steps of ScanMisses; what stays and what has been told. No condition. -/
import Derived.Test.YtkecipdonamjaaaScanH
import Derived.ChangeSame
namespace Go.Proofs.Ytkecipdonamjaaa
open Go.ChangeShapes Go.WideShapes Go.ChangeAt Go.RowKit Di
section
variable {P : Program} {w : World}
/-- what append hands back lies where the slice lay, or in a new block -/
theorem append_apart (base : Nat) (t ty e : TypeId) (i : TypeInfo) (z : Value) (size bytes : Nat) (ht : P.underlying t = some (.slice e)) (hi : P.info? e = some i) (hz : i.zero = some z)
    (hsize : i.size = size) (hby : i.bytes = bytes) (hzs : z.cells.size = size) (hsz : 0 < size)
    (v : Value) (n : Nat) (xs : List Value) (hown : w.ownsRow base e size v n xs)
    (a : Addr) (m c : Nat) (news : List Value) (hl : news.length = m * size) (hnews : ∀ j u, news[j]? = some u → w.cell? (a.add j) = some u) (h1 : ∀ u ∈ news, u.oneCell' = true)
    (h63 : n + m ≤ maxLen) (hbytes : (n + m) * bytes ≤ 140737488355328) (hbase : base ≤ w.heap.size) :
    ∃ v' w', (Builtin.append_ #[t, t] ty #[v, .slice (some a) m c]).run P w = .ok v' w' ∧ w'.ownsRow base e size v' (n + m) (xs ++ news) ∧ w.grownBy w' v.ownBlock ∧
      ∀ g, v'.ownBlock = some g → v.ownBlock = some g ∨ w.heap.size ≤ g := by
  obtain ⟨v', w', hr, h2, h3, h4⟩ := run_append_own (P := P) w base t ty e i z size bytes ht hi hz hsize hby hzs hsz v n xs hown a m c news hl hnews h1 h63 hbytes hbase
  refine ⟨v', w', hr, h2, h3, fun g hg => ?_⟩
  have h63' : n + m ≤ 9223372036854775807 := by unfold maxLen at h63; omega
  subst hsize
  subst hby
  rcases hown.2 with ⟨rfl, rfl⟩ | ⟨g0, cap, cur, rfl, hbg, hgg, hnc, hcm, hcs, htake⟩
  · by_cases hm : m = 0
    · rw [h4.2 ⟨rfl, hm⟩] at hg; cases hg
    · have hr2 := run_append_nil (P := P) w t ty e i z ht hi hz a m c news hl hnews (by omega) (by omega) (by have hb := hbytes; simp only [Nat.zero_add] at hb; omega)
      rw [hr] at hr2
      simp only [Result.ok.injEq] at hr2
      rw [hr2.1] at hg
      cases hg
      exact .inr (Nat.le_refl _)
  · by_cases hroom : n + m ≤ cap
    · have hr2 := run_append_room (P := P) w t ty e i ht hi g0 n cap cur hgg a m c news hl hnews h1 hroom (by rw [hl, hcs, ← Nat.add_mul]; exact Nat.mul_le_mul_right _ hroom)
      rw [hr] at hr2
      simp only [Result.ok.injEq] at hr2
      rw [hr2.1] at hg
      cases hg
      exact .inl rfl
    · have hr2 := run_append_grow (P := P) w t ty e i z ht hi hz ⟨g0, 0, none⟩ n cap xs hown.1 (hown.cells (g := g0) rfl) a m c news hl hnews (by omega) (by omega) (growslice_fits (by omega) hbytes)
      rw [hr] at hr2
      simp only [Result.ok.injEq] at hr2
      rw [hr2.1] at hg
      cases hg
      exact .inr (Nat.le_refl _)
variable {ops : Array Oper} {rest : List Oper} {o : Oper} {a : Act} {Q : Exit → Act → World → Prop}
theorem wpl_append2 (hgd : o.guard = none) (s x : Operand) (t : TypeId) (ho : o.op = .call { callee := .builtin .append, args := #[s, x], argTypes := #[t, t] })
    (base : Nat) (e : TypeId) (i : TypeInfo) (z : Value) (size bytes : Nat) (ht : P.underlying t = some (.slice e)) (hi : P.info? e = some i) (hz : i.zero = some z)
    (hsize : i.size = size) (hby : i.bytes = bytes) (hzs : z.cells.size = size) (hsz : 0 < size)
    (v : Value) (n : Nat) (xs : List Value) (hs : a.eval s = v) (hown : w.ownsRow base e size v n xs)
    (xv : Value) (m : Nat) (news : List Value) (hx : a.eval x = xv) (hrd : RdC w size xv m news) (h1 : ∀ u ∈ news, u.oneCell' = true)
    (h63 : n + m ≤ maxLen) (hbytes : (n + m) * bytes ≤ 140737488355328) (hbase : base ≤ w.heap.size)
    (h : ∀ v' w', w'.ownsRow base e size v' (n + m) (xs ++ news) → w.grownBy w' v.ownBlock → (∀ g, v'.ownBlock = some g → v.ownBlock = some g ∨ w.heap.size ≤ g) → wpList P ops Q rest (a.put o.dst v') w') : wpList P ops Q (o :: rest) a w := by
  obtain ⟨hl, ad, cap, hxv, hmc, hcm, hnil, hcells⟩ := hrd
  cases ad with
  | some ad =>
    refine wpList_plain hgd fun K hK => ?_
    obtain ⟨v', w', hr, h2, h3, h4⟩ := append_apart (P := P) (w := w) base t o.type e i z size bytes ht hi hz hsize hby hzs hsz v n xs hown ad m cap news hl (hcells ad rfl) h1 h63 hbytes hbase
    have hg := h v' w' h2 h3 h4
    have he : a.eval x = .slice (some ad) m cap := hx.trans hxv
    unfold Oper.wp
    simp [execOp, ho, resolve, invoke, builtin, hs, he, hr, Result.andThen]
    exact hK _ _ hg
  | none =>
    obtain ⟨rfl, rfl⟩ := hnil rfl
    have hn0 : news = [] := by simpa using hl
    subst hn0
    refine wpList_plain hgd fun K hK => ?_
    have hrun := run_append_owned_none (P := P) (w := w) (base := base) t o.type e i size ht hi v n xs hown
    have hg := h v w (by simpa using hown) ⟨rfl, rfl, rfl, Nat.le_refl _, fun _ _ _ => rfl⟩ (fun g hg => .inl hg)
    have he : a.eval x = .slice none 0 0 := hx.trans hxv
    unfold Oper.wp
    simp [execOp, ho, resolve, invoke, builtin, hs, he, hrun, Result.andThen]
    exact hK _ _ hg
end
/-- a step: a change, and how many keys are asked for behind it -/
structure St where
  ch : Ch
  count : Int
def InI (x : Int) : Prop := -9223372036854775808 ≤ x ∧ x ≤ 9223372036854775807
abbrev StB := { o : St // o.ch.key.size ≤ maxLen ∧ InI o.count }
def stb (o : StB) : List Value := [.int .i64 o.1.ch.do_, .string o.1.ch.key, .int .i64 o.1.count]
theorem stb_len (o : StB) : (stb o).length = 3 := rfl
theorem three_of {α : Type} {l : List α} (h : l.length = 3) : ∃ a b c, l = [a, b, c] := by
  match l, h with
  | [a, b, c], _ => exact ⟨a, b, c, rfl⟩
set_option maxRecDepth 100000 in
theorem st_read {H : Type} {enc : TypeId × Value → H} {w : World} {base : Nat} {held : Bool} (n : Nat) (l : List Value) (y : DataW H × List MemPlace) (h : DataW.trod enc Try.prog w base (fun _ => true) held n 94 l = some y) : ∃ x : StB, l = stb x := by
  obtain ⟨y0, y1, n', _, hl, t0, t1⟩ := trod_struct2 Try.underlying94 h
  have ec : Try.prog.cellsOf 94 = 3 := by kernel_rfl
  have e0 : Try.prog.cellsOf 84 = 2 := by kernel_rfl
  have e1 : Try.prog.cellsOf 3 = 1 := by kernel_rfl
  rw [ec] at hl
  obtain ⟨c0, c1, c2, rfl⟩ := three_of hl
  have t0' : DataW.trod enc Try.prog w base (fun _ => true) held n' 84 [c0, c1] = some y0 := by
    have h2 := t0
    dsimp only at h2
    rw [e0] at h2
    exact h2
  have t1' : DataW.trod enc Try.prog w base (fun _ => true) held n' 3 [c2] = some y1 := by
    have h2 := t1
    dsimp only at h2
    rw [e1] at h2
    exact h2
  obtain ⟨x, hx⟩ := ch_read n' _ _ t0'
  obtain ⟨x1, g1, _, hw1⟩ := DataW.trod_int Try.underlying3 t1'
  cases g1
  simp only [chb, chCells, List.cons.injEq, and_true] at hx
  obtain ⟨rfl, rfl⟩ := hx
  have hrange : InI x1 := i64_of hw1
  exact ⟨⟨⟨x.1, x1⟩, x.2, hrange⟩, rfl⟩
theorem st_at {w : World} {a : Option Addr} {n cap : Nat} {l : List StB} (h : RdC w 3 (.slice a n cap) n (l.flatMap stb)) (k : Nat) (hk : k < l.length) :
    ∃ g off, a = some ⟨g, off, none⟩ ∧ w.cell? ⟨g, off + k * 3, none⟩ = some (.int .i64 l[k].1.ch.do_) ∧ w.cell? ⟨g, off + k * 3 + 1, none⟩ = some (.string l[k].1.ch.key) ∧ w.cell? ⟨g, off + k * 3 + 2, none⟩ = some (.int .i64 l[k].1.count) := by
  have hf := fun j hj => flat_at stb 3 stb_len l k j hk hj
  have hpos : 0 < (l.flatMap stb).length := by
    have := hf 0 (by decide)
    have h2 : (stb l[k])[0]? = some (.int .i64 l[k].1.ch.do_) := rfl
    rw [h2] at this
    have := (List.getElem?_eq_some_iff.1 this).1
    omega
  obtain ⟨g, off, rfl, hc⟩ := h.at hpos
  refine ⟨g, off, rfl, ?_, ?_, ?_⟩
  · exact hc (k * 3 + 0) _ (by rw [hf 0 (by decide)]; rfl)
  · rw [Nat.add_assoc]; exact hc (k * 3 + 1) _ (by rw [hf 1 (by decide)]; rfl)
  · rw [Nat.add_assoc]; exact hc (k * 3 + 2) _ (by rw [hf 2 (by decide)]; rfl)
/-- the keys that stay are still there -/
theorem set_keys {L : Pl} {key x : ByteArray} (v : Int) (h : x ∈ L.map (·.1)) : x ∈ (setL L key v).map (·.1) := by
  unfold setL
  cases ha : atOf key L with
  | none => rw [List.map_append]; exact List.mem_append_left _ h
  | some i =>
    obtain ⟨y, hy⟩ := atOf_some ha
    have h1 := (perm_erase L i _ hy).map (·.1)
    have h2 := (perm_set L i (key, v) (atOf_lt ha)).map (·.1)
    have h3 := h1.mem_iff.1 h
    exact h2.mem_iff.2 h3
theorem del_keys {L : Pl} {key x : ByteArray} (hne : x ≠ key) (h : x ∈ L.map (·.1)) : x ∈ (delL L key).map (·.1) := by
  unfold delL
  cases ha : atOf key L with
  | none => exact h
  | some i =>
    obtain ⟨y, hy⟩ := atOf_some ha
    have hi := atOf_lt ha
    have h1 := (perm_erase L i _ hy).map (·.1)
    have hz : L[L.length - 1]? = some (L.getD (L.length - 1) (key, 0)) := by
      rw [List.getD_eq_getElem?_getD, List.getElem?_eq_getElem (by omega)]; rfl
    have h2 := (perm_swapdrop L i hi _ hz).map (·.1)
    have h3 := h1.mem_iff.1 h
    refine h2.mem_iff.2 ?_
    rw [List.map_cons, List.mem_cons] at h3
    exact h3.resolve_left hne
theorem stays_keys {o : Ch} {L : Pl} {l : List ByteArray} (h : ∀ x ∈ l, x ∈ L.map (·.1)) : ∀ x ∈ staysL o l, x ∈ l ∧ x ∈ (changeL o L).map (·.1) := by
  intro x hx
  unfold staysL at hx
  by_cases h4 : o.do_ = 4
  · rw [if_pos h4] at hx; cases hx
  · rw [if_neg h4, List.mem_filter] at hx
    refine ⟨hx.1, ?_⟩
    have hin := h x hx.1
    unfold changeL
    by_cases h1 : o.do_ = 1
    · rw [if_pos h1]; exact set_keys 1 hin
    · rw [if_neg h1]
      by_cases h2 : o.do_ = 2
      · rw [if_pos h2]
        refine del_keys ?_ hin
        intro e
        have := hx.2
        simp [h2, e] at this
      · rw [if_neg h2, if_neg h4]; exact hin
/-- what has been told by now: each key that stays and lies ahead of the cursor's place -/
def Tld (seed : UInt64) (c : Nat) (told all : List ByteArray) : Prop := ∀ x ∈ all, (c = 0 ∨ place seed x < tr 64 c) → x ∈ told
theorem Tld.next {M : DM} {L : Pl} (hl : Like M L) (ho : M.old.length ≤ 35184372088832) (hy : M.young.length ≤ 35184372088832) {c : Nat} {told all : List ByteArray} (hc : c ≠ 0) (h : Tld M.seed c told all) (hs : ∀ x ∈ all, x ∈ L.map (·.1)) (count : Int) :
    Tld M.seed (scanK M c count).1 (told ++ (scanK M c count).2) all := by
  intro x hx hp
  by_cases hlt : place M.seed x < tr 64 c
  · exact List.mem_append_left _ (h x hx (.inr hlt))
  · obtain ⟨en, hen, rfl⟩ := List.mem_map.1 (hs x hx)
    obtain ⟨e, he, hek⟩ := like_entry hl hen
    rw [← hek] at hp hlt ⊢
    exact List.mem_append_right _ (scan_tells hl.inv ho hy c count he (Nat.le_of_not_lt hlt) hp)
theorem Tld.first {M : DM} {L : Pl} (hl : Like M L) (ho : M.old.length ≤ 35184372088832) (hy : M.young.length ≤ 35184372088832) {all : List ByteArray} (hs : ∀ x ∈ all, x ∈ L.map (·.1)) (count : Int) :
    Tld M.seed (scanK M 0 count).1 (scanK M 0 count).2 all := by
  intro x hx hp
  obtain ⟨en, hen, rfl⟩ := List.mem_map.1 (hs x hx)
  obtain ⟨e, he, hek⟩ := like_entry hl hen
  rw [← hek] at hp ⊢
  exact scan_tells hl.inv ho hy 0 count he (by rw [tr_zero]; exact Nat.zero_le _) hp
theorem Tld.stay {seed : UInt64} {c : Nat} {told all all' : List ByteArray} (h : Tld seed c told all) (hs : ∀ x ∈ all', x ∈ all) : Tld seed c told all' := fun x hx hp => h x (hs x hx) hp
theorem Tld.rest {M : DM} {L : Pl} (hl : Like M L) {c : Nat} {told all l : List ByteArray} (h : Tld M.seed c told all) (hs : ∀ x ∈ all, x ∈ L.map (·.1)) (hr : RestOf M c l) : ∀ x ∈ all, x ∈ told ++ l := by
  intro x hx
  by_cases hlt : place M.seed x < tr 64 c
  · exact List.mem_append_left _ (h x hx (.inr hlt))
  · obtain ⟨en, hen, rfl⟩ := List.mem_map.1 (hs x hx)
    obtain ⟨e, he, hek⟩ := like_entry hl hen
    rw [← hek] at hlt ⊢
    exact List.mem_append_right _ (hr.told e he (Nat.le_of_not_lt hlt))
theorem scanK_len {M : DM} (h : Inv M) (ho : M.old.length ≤ 35184372088832) (hy : M.young.length ≤ 35184372088832) (c : Nat) (count : Int) : (scanK M c count).2.length ≤ 3 * M.n := by
  have h1 := ((RS.start M (max count 1).toNat c).step h ho hy (count := count)).1
  rwa [List.nil_append] at h1
end Go.Proofs.Ytkecipdonamjaaa
