/- The walk of package dict's Each at int: what it hands back tells each key and value once. -/
import Derived.Test.YtkecipdonamjaaaDiE1
import Derived.Sort.CutIn
import Derived.Maps.AppendAt
namespace Go.Proofs.Ytkecipdonamjaaa.Di
open Go.RowKit Go.Shelf
attribute [local go_sem] Oper.semAt_some
def etE (e : E) : Array Value := #[.string e.key, (fun l : List Value => l.headD undef) e.val]
/-- the iterator's own memory: keys and values gathered so far -/
structure Eb (W0 : World) (v1 v2 : Value) (ks : List ByteArray) (es : List E) (W : World) : Prop where
  b1 : Boxed W W0.heap.size 47 v1
  b2 : Boxed W (W0.heap.size + 1) 25 v2
  r1 : W.ownsRow W0.heap.size 9 1 v1 ks.length (ks.map .string)
  r2 : W.ownsRow W0.heap.size 3 1 v2 es.length (es.flatMap E.val)
  ap : ∀ g, v1.ownBlock = some g → v2.ownBlock ≠ some g
  fr : Fr (fun _ => False) W0 W
theorem own_blk {W : World} {B0 : Nat} {e : TypeId} {size : Nat} {v : Value} {n : Nat} {xs : List Value} (h : W.ownsRow B0 e size v n xs) {g : Nat} (hg : v.ownBlock = some g) : B0 ≤ g ∧ g < W.heap.size ∧ ∃ cs, W.heap[g]? = some (.cells cs e (0, 0)) := by
  rcases h with ⟨h1, ⟨rfl, _⟩ | ⟨g', cap, cur, rfl, hb, hgg, hnc, hcm, hcs, htake⟩⟩
  · cases hg
  · cases hg
    exact ⟨hb, (Array.getElem?_eq_some_iff.1 hgg).1, _, hgg⟩
theorem own_same {A B : World} {B0 : Nat} {e : TypeId} {size : Nat} {v : Value} {n : Nat} {xs : List Value} (h : A.ownsRow B0 e size v n xs) (hk : ∀ g, v.ownBlock = some g → B.heap[g]? = A.heap[g]?) : B.ownsRow B0 e size v n xs := by
  rcases h with ⟨h1, h2 | ⟨g, cap, cur, rfl, hb, hgg, hnc, hcm, hcs, htake⟩⟩
  · exact ⟨h1, .inl h2⟩
  · exact ⟨h1, .inr ⟨g, cap, cur, rfl, hb, (hk g rfl).trans hgg, hnc, hcm, hcs, htake⟩⟩
theorem Eb.turn {W0 A B : World} {v1 v2 : Value} {ks : List ByteArray} {es : List E} (h : Eb W0 v1 v2 ks es A) {row : Option Nat} (hg : A.grownBy B row) (hr : ∀ r, row = some r → W0.heap.size ≤ r ∧ ∃ o : Obj, A.heap[r]? = some o ∧ o.isCells = false) : Eb W0 v1 v2 ks es B := by
  have hne : ∀ k cs t m, A.heap[k]? = some (.cells cs t m) → some k ≠ row := by
    intro k cs t m hk e
    obtain ⟨_, o, ho, hc⟩ := hr k e.symm
    rw [hk] at ho
    cases ho
    cases hc
  have own : ∀ {e : TypeId} {size : Nat} {v : Value} {n : Nat} {xs : List Value}, A.ownsRow W0.heap.size e size v n xs → B.ownsRow W0.heap.size e size v n xs := by
    intro e size v n xs h
    refine own_same h fun g hgv => ?_
    obtain ⟨_, hl, cs, hc⟩ := own_blk h hgv
    exact hg.block g hl (hne g _ _ _ hc)
  exact ⟨h.b1.kept hg (hne _ _ _ _ h.b1), h.b2.kept hg (hne _ _ _ _ h.b2), own h.r1, own h.r2, h.ap, h.fr.wide (Fr.of_grownBy hg) (fun i hi => .inr (hr i hi).1)⟩
theorem Eb.quiet {W0 A B : World} {v1 v2 : Value} {ks : List ByteArray} {es : List E} (h : Eb W0 v1 v2 ks es A) (hf : Fr (fun _ => False) A B) : Eb W0 v1 v2 ks es B :=
  h.turn (row := none) ⟨hf.os, hf.tape, hf.output, hf.size, fun k hk _ => hf.block k hk (fun h => h)⟩ (fun r e => by cases e)
/-- what gathering may write -/
def Wr (W0 : World) (v1 v2 : Value) (k : Nat) : Prop := k = W0.heap.size ∨ k = W0.heap.size + 1 ∨ v1.ownBlock = some k ∨ v2.ownBlock = some k
theorem Eb.app1 {W0 A A1 w' : World} {v1 v2 v' : Value} {ks : List ByteArray} {es : List E} {key : ByteArray} (h : Eb W0 v1 v2 ks es A) (hA : Fr (fun _ => False) A A1)
    (hr : w'.ownsRow W0.heap.size 9 1 v' (ks.length + 1) (ks.map .string ++ [.string key])) (hg : A1.grownBy w' v1.ownBlock) (ho : v'.ownBlock = v1.ownBlock ∨ v'.ownBlock = some A1.heap.size) :
    Eb W0 v' v2 (ks ++ [key]) es (w'.setCell ⟨W0.heap.size, 0, none⟩ v') ∧ Fr (Wr W0 v1 v2) A (w'.setCell ⟨W0.heap.size, 0, none⟩ v') ∧ w'.cell? ⟨W0.heap.size, 0, none⟩ = some v1 ∧ w'.frozen? ⟨W0.heap.size, 0, none⟩ = false := by
  have h1 := h.quiet hA
  have hb1 : Boxed w' W0.heap.size 47 v1 := h1.b1.kept hg (h1.b1.not_row (by decide) h1.r1)
  have hb2 : Boxed w' (W0.heap.size + 1) 25 v2 := h1.b2.kept hg (h1.b2.not_row (by decide) h1.r1)
  have hgf := Fr.of_grownBy hg
  have hr2 : w'.ownsRow W0.heap.size 3 1 v2 es.length (es.flatMap E.val) := by
    refine own_same h1.r2 fun g hgv => hg.block g (own_blk h1.r2 hgv).2.1 (fun e => ?_)
    exact h.ap g e.symm hgv
  have hset := Fr.setCell w' ⟨W0.heap.size, 0, none⟩ v'
  have hne : ∀ {e : TypeId} {size : Nat} {v : Value} {n : Nat} {xs : List Value}, w'.ownsRow W0.heap.size e size v n xs → 47 ≠ e → ∀ g, v.ownBlock = some g → g ≠ W0.heap.size := fun hrow hte g hgv e => hb1.not_row hte hrow (by rw [← e]; exact hgv.symm)
  have hsz : W0.heap.size + 1 < A1.heap.size := h1.b2.lt
  refine ⟨⟨hb1.set v', ?_, ?_, own_same hr2 fun g hgv => hset.block g (own_blk hr2 hgv).2.1 (fun e => hne hr2 (by decide) g hgv e), ?_, ?_⟩, ?_, hb1.cell, hb1.frozen⟩
  · exact (hset.block _ hb2.lt (by dsimp only; omega)).trans hb2
  · rw [List.length_append, List.map_append]
    exact own_same hr fun g hgv => hset.block g (own_blk hr hgv).2.1 (fun e => hne hr (by decide) g hgv e)
  · intro g hgv
    rcases ho with ho | ho
    · rw [ho] at hgv; exact h.ap g hgv
    · rw [ho] at hgv
      cases hgv
      intro e
      have := (own_blk h1.r2 e).2.1
      omega
  · exact ((h1.fr.wide hgf (fun i hi => .inr (own_blk h1.r1 hi).1)).wide hset (fun i hi => .inr (by dsimp only at hi; omega)))
  · exact ((hA.mono (T := Wr W0 v1 v2) (fun _ h => h.elim)).wide hgf (fun i hi => .inl (.inr (.inr (.inl hi))))).wide hset (fun i hi => .inl (.inl hi))
theorem Eb.app2 {W0 A A1 w' : World} {v1 v2 v' : Value} {ks : List ByteArray} {es : List E} {e0 : E} (h : Eb W0 v1 v2 ks es A) (hA : Fr (fun _ => False) A A1)
    (hr : w'.ownsRow W0.heap.size 3 1 v' (es.length + 1) (es.flatMap E.val ++ e0.val)) (hg : A1.grownBy w' v2.ownBlock) (ho : v'.ownBlock = v2.ownBlock ∨ v'.ownBlock = some A1.heap.size) :
    Eb W0 v1 v' ks (es ++ [e0]) (w'.setCell ⟨W0.heap.size + 1, 0, none⟩ v') ∧ Fr (Wr W0 v1 v2) A (w'.setCell ⟨W0.heap.size + 1, 0, none⟩ v') ∧ w'.cell? ⟨W0.heap.size + 1, 0, none⟩ = some v2 ∧ w'.frozen? ⟨W0.heap.size + 1, 0, none⟩ = false := by
  have h1 := h.quiet hA
  have hb1 : Boxed w' W0.heap.size 47 v1 := h1.b1.kept hg (h1.b1.not_row (by decide) h1.r2)
  have hb2 : Boxed w' (W0.heap.size + 1) 25 v2 := h1.b2.kept hg (h1.b2.not_row (by decide) h1.r2)
  have hgf := Fr.of_grownBy hg
  have hr1 : w'.ownsRow W0.heap.size 9 1 v1 ks.length (ks.map .string) := by
    refine own_same h1.r1 fun g hgv => hg.block g (own_blk h1.r1 hgv).2.1 (fun e => ?_)
    exact h.ap g hgv e.symm
  have hset := Fr.setCell w' ⟨W0.heap.size + 1, 0, none⟩ v'
  have hne : ∀ {e : TypeId} {size : Nat} {v : Value} {n : Nat} {xs : List Value}, w'.ownsRow W0.heap.size e size v n xs → 25 ≠ e → ∀ g, v.ownBlock = some g → g ≠ W0.heap.size + 1 := fun hrow hte g hgv e => hb2.not_row hte hrow (by rw [← e]; exact hgv.symm)
  have hsz : W0.heap.size + 1 < A1.heap.size := h1.b2.lt
  refine ⟨⟨?_, hb2.set v', own_same hr1 fun g hgv => hset.block g (own_blk hr1 hgv).2.1 (fun e => hne hr1 (by decide) g hgv e), ?_, ?_, ?_⟩, ?_, hb2.cell, hb2.frozen⟩
  · exact (hset.block _ hb1.lt (by dsimp only; omega)).trans hb1
  · rw [List.length_append, List.flatMap_append, List.flatMap_singleton]
    exact own_same hr fun g hgv => hset.block g (own_blk hr hgv).2.1 (fun e => hne hr (by decide) g hgv e)
  · intro g hgv
    rcases ho with ho | ho
    · rw [ho]; exact h.ap g hgv
    · rw [ho]
      intro e
      cases e
      have := (own_blk h1.r1 hgv).2.1
      omega
  · exact ((h1.fr.wide hgf (fun i hi => .inr (own_blk h1.r2 hi).1)).wide hset (fun i hi => .inr (by dsimp only at hi; omega)))
  · exact ((hA.mono (T := Wr W0 v1 v2) (fun _ h => h.elim)).wide hgf (fun i hi => .inl (.inr (.inr (.inr hi))))).wide hset (fun i hi => .inl (.inr (.inl hi)))
/-- gathering leaves all but its own memory alone -/
theorem Eb.others {W0 A B : World} {v1 v2 : Value} {ks : List ByteArray} {es : List E} (h : Eb W0 v1 v2 ks es A) (hf : Fr (Wr W0 v1 v2) A B) : KeepsOthers A B := by
  refine ⟨hf.size, fun k o hk hc => (hf.block k (Array.getElem?_eq_some_iff.1 hk).1 (fun hw => ?_)).trans hk⟩
  have hcell : ∃ cs t m, A.heap[k]? = some (.cells cs t m) := by
    rcases hw with rfl | rfl | hw | hw
    · exact ⟨_, _, _, h.b1⟩
    · exact ⟨_, _, _, h.b2⟩
    · obtain ⟨_, _, cs, hb⟩ := own_blk h.r1 hw; exact ⟨_, _, _, hb⟩
    · obtain ⟨_, _, cs, hb⟩ := own_blk h.r2 hw; exact ⟨_, _, _, hb⟩
  obtain ⟨cs, t, m, hb⟩ := hcell
  rw [hk] at hb
  cases hb
  cases hc
theorem Eb.keep {W0 A B : World} {v1 v2 : Value} {ks : List ByteArray} {es : List E} (h : Eb W0 v1 v2 ks es A) (hf : Fr (Wr W0 v1 v2) A B) {d : Nat} {M : DM} (hd : DAt W0 d M) {v : Value} (hb : Boxed A (W0.heap.size + 1 + 1) 29 v) : Keep (fun k _ => k = W0.heap.size + 1 + 1 ∨ Bs (dictL d M) k) A B := by
  refine Keep.of_fr hf fun k cs t m hs hk hw => ?_
  rcases hs with rfl | hs
  · rcases hw with hw | hw | hw | hw
    · omega
    · omega
    · exact hb.not_row (by decide) h.r1 hw.symm
    · exact hb.not_row (by decide) h.r2 hw.symm
  · have := hd.rep.lt hs
    rcases hw with hw | hw | hw | hw
    · omega
    · omega
    · have := (own_blk h.r1 hw).1; omega
    · have := (own_blk h.r2 hw).1; omega
/-- append of one element, as one step of a region that draws its order, inside a fence -/
theorem step_append_in {F : Fence} {n : Nat} {P : Program} {ops : Array Oper} {o : Oper} {a : Act} {w : World} {K : Act → World → Prop} {Q : Exit → Act → World → Prop} {E : Prop} (hgd : o.guard = none) (s x : Operand) (t : TypeId)
    (ho : o.op = .call { callee := .builtin .append, args := #[s, x], argTypes := #[t, t] })
    (base : Nat) (e : TypeId) (i : TypeInfo) (z : Value) (size bytes : Nat) (ht : P.underlying t = some (.slice e)) (hi : P.info? e = some i) (hz : i.zero = some z)
    (hsize : i.size = size) (hby : i.bytes = bytes) (hzs : z.cells.size = size) (hsz : 0 < size)
    (v : Value) (k : Nat) (xs : List Value) (hs : a.eval s = v)
    (ad : Addr) (m c : Nat) (news : List Value) (hx : a.eval x = .slice (some ad) m c) (hl : news.length = m * size) (h1 : ∀ u ∈ news, u.oneCell' = true)
    (h63 : k + m ≤ maxLen) (hbytes : (k + m) * bytes ≤ 140737488355328)
    (hown : w.ownsRow base e size v k xs) (hnews : ∀ j u, news[j]? = some u → w.cell? (ad.add j) = some u) (hbase : base ≤ w.heap.size)
    (h : ∀ v' w', w'.ownsRow base e size v' (k + m) (xs ++ news) → w.grownBy w' v.ownBlock → (v'.ownBlock = v.ownBlock ∨ v'.ownBlock = some w.heap.size) → K (a.put o.dst v') w') :
    if Region.wanted o (yielded ops a.tmps) = true then Oper.wpIn F n P o a w K Q else E := by
  have hw : Region.wanted o (yielded ops a.tmps) = true := by simp [Region.wanted, hgd]
  rw [if_pos hw]
  obtain ⟨v', w', hr, h2, h3, h4, h5⟩ := run_append_own_at (P := P) w base t o.type e i z size bytes ht hi hz hsize hby hzs hsz v k xs hown ad m c news hl hnews h1 h63 hbytes hbase
  unfold Oper.wpIn
  refine ⟨by simp [Oper.about, ho, resolve, Target.leads, Sem.run_pure], ?_⟩
  rw [Oper.semAt_plain F _ _ (by rw [ho]; intro c hc'; cases hc')]
  simp [execOp, ho, resolve, invoke, builtin, hs, hx, hr, Result.andThen]
  exact h v' w' h2 h3 h5
theorem opn_mid {w : World} {d : Nat} {M : DM} (h : DAt w d M) {c pre post : List E} {e : E} (hc : c ∈ opn M) (hs : c = pre ++ e :: post) : w.heap[e.b]? = some (entryObj 114 e (hp post)) ∧ e.val.length = 1 := by
  obtain ⟨i, hi, rfl⟩ := List.getElem_of_mem hc
  have hin : e ∈ entries M := by rw [← opn_flatten h.inv]; exact List.mem_flatten.2 ⟨_, hc, by rw [hs]; simp⟩
  refine ⟨?_, (h.sz e hin).1⟩
  have hg : (opn M)[i]? = some (pre ++ e :: post) := by rw [List.getElem?_eq_getElem hi, hs]
  by_cases hlt : i < M.old.length - M.at_
  · rw [opn_old M i hlt] at hg
    have ho : M.old ≠ [] := by intro e; rw [e] at hg; simp at hg
    exact mid_at (tab_old h ho).1.chains hg
  · rw [opn_young M i hlt] at hg
    have hy : M.young ≠ [] := by intro e; rw [e] at hg; simp at hg
    exact mid_at (tab_young h hy).1.chains hg
theorem opn_le {M : DM} (h : Inv M) {l : List (List E)} {c c1 c2 : List E} (hl : l ++ [c] <+: opn M) (hc : c = c1 ++ c2) : (l.flatten ++ c1).length + c2.length ≤ M.n := by
  obtain ⟨r, hr⟩ := hl
  rw [h.count, ← opn_flatten h, ← hr, hc]
  simp
  omega
theorem flat_mem {α : Type} (f : α → List Value) (n : Nat) (l : List α) (hf : ∀ x ∈ l, (f x).length = n) (k j : Nat) (hk : k < l.length) (hj : j < n) : (l.flatMap f)[k * n + j]? = (f l[k])[j]? := by
  induction l generalizing k with
  | nil => simp at hk
  | cons x l ih =>
    have hx : (f x).length = n := hf x (by simp)
    rw [List.flatMap_cons]
    cases k with
    | zero =>
      rw [Nat.zero_mul, Nat.zero_add, List.getElem?_append_left (by rw [hx]; exact hj)]
      rfl
    | succ k =>
      have := ih (fun y hy => hf y (by simp [hy])) k (by simpa using hk)
      rw [List.getElem?_append_right (by rw [hx, Nat.succ_mul]; omega), hx, show (k + 1) * n + j - n = k * n + j by rw [Nat.succ_mul]; omega]
      exact this
theorem own_at {w : World} {B : Nat} {e : TypeId} {size : Nat} {v : Value} {n : Nat} {xs : List Value} (h : w.ownsRow B e size v n xs) (hx : 0 < xs.length) :
    ∃ g cap, v = .slice (some ⟨g, 0, none⟩) n cap ∧ B ≤ g ∧ ∀ (i : Nat) (u : Value), xs[i]? = some u → w.cell? ⟨g, i, none⟩ = some u := by
  have h0 := h
  rcases h with ⟨h1, ⟨_, hz⟩ | ⟨g, cap, cur, rfl, hb, hg, hnc, hcm, hcs, htake⟩⟩
  · subst hz; simp at h1; rw [List.length_eq_zero_iff.2 h1] at hx; omega
  · refine ⟨g, cap, rfl, hb, fun i u hu => ?_⟩
    have := h0.cells rfl i u hu
    rwa [Addr.add_lit, Nat.zero_add] at this
theorem own_keep {S : Nat → TypeId → Prop} {A B : World} {B0 : Nat} {e : TypeId} {size : Nat} {v : Value} {n : Nat} {xs : List Value} (h : A.ownsRow B0 e size v n xs) (hk : Keep S A B) (hs : ∀ k, B0 ≤ k → S k e) : B.ownsRow B0 e size v n xs :=
  own_same h fun g hg => by
    obtain ⟨hb, _, cs, hc⟩ := own_blk h hg
    rw [hc]
    exact hk g cs _ _ (hs g hb) hc
theorem info_string : (Try.prog.info? 9).map (fun i => (i.zero, i.size, i.bytes)) = some (some (.string ⟨#[]⟩), 1, 16) := by kernel_rfl
theorem info_value : (Try.prog.info? 3).map (fun i => (i.zero, i.size, i.bytes)) = some (some (.int .i64 0), 1, 8) := by kernel_rfl
set_option maxRecDepth 100000 in
set_option maxHeartbeats 4000000 in
theorem each1_in (F : Fence) (n : Nat) (hF : F.fn 67) (hFa : F.fn 68) (hFb : F.fn 99) (hro : F.round = none) (hn : 4 ≤ n) (l Bd d : Nat) (M : DM) (n0 : Nat) (Kp : World → World → Prop)
    (hKp : ∀ A B, Kp A B → Keep (fun k t => n0 ≤ k ∧ (t = 9 ∨ t = 3 ∨ t = 47 ∨ t = 25)) A B ∧ Late n0 A B) (J Jx : List E → World → Prop)
    (W : World) (hn0 : n0 ≤ W.heap.size) (hJ : OwnFrom W.heap.size J) (hJx : OwnFrom W.heap.size Jx)
    (hY : ∀ pre x W, J pre W → pre ++ [x] <+: (opn M).flatten → YieldAt F (n - 1) Try.prog l (etE x) W fun e W' =>
      (e = .returned (.bool true) ∧ J (pre ++ [x]) W' ∧ Kp W W') ∨ (e = .returned (.bool false) ∧ Jx (pre ++ [x]) W' ∧ Late 0 W W'))
    (hA : Al d Bd M W) (hval : ∀ e ∈ (opn M).flatten, ∃ xx : Int, e.val = [.int .i64 xx]) (hMn : M.n ≤ 8796093022000) (h0 : J [] W) :
    CallsIn F n Try.prog 67 #[.func (.yield l) #[] #[], .pointer (some ⟨Bd, 0, none⟩)] W fun e W' => (∃ v, e = .returned v) ∧
      ((∃ xs, xs = (opn M).flatten ∧ J xs W') ∨ (∃ pre, pre <+: (opn M).flatten ∧ Jx pre W')) := by
  have HA := Lib.hid hA
  have hcb : W.cell? ⟨Bd, 0, none⟩ = some (.pointer (some ⟨d, 0, none⟩)) := by rw [cell_of_blk hA.box]; rfl
  have hlt : Bd < W.heap.size := (Array.getElem?_eq_some_iff.1 hA.box).1
  have HY := Lib.hid hY
  have HKP := Lib.hid hKp
  have HJ := Lib.hid hJ
  have HJX := Lib.hid hJx
  have H0 := Lib.hid h0
  have HVAL := Lib.hid hval
  have h1 : 1 ≤ n := by omega
  obtain ⟨i0, hi, hz0, hz1, hz2⟩ := info_parts info_string
  obtain ⟨j0, hj, hy0, hy1, hy2⟩ := info_parts info_value
  have HI := Lib.hid hi
  have HZ0 := Lib.hid hz0
  have HZ1 := Lib.hid hz1
  have HZ2 := Lib.hid hz2
  have HJ0 := Lib.hid hj
  have HY0 := Lib.hid hy0
  have HY1 := Lib.hid hy1
  have HY2 := Lib.hid hy2
  clear hA hval hY hKp hJ hJx h0 hi hz0 hz1 hz2 hj hy0 hy1 hy2
  refine callsIn_of_wp_marks Try.func67 rfl hF ?_ hro
  simp only [Try.ntmps67, List.size_toArray, List.length_cons, List.length_nil, Nat.reduceAdd, Nat.reduceSub, Array.replicate_succ, Array.replicate_zero, List.push_toArray, List.append_toArray, List.nil_append, List.cons_append]
  gi_wp2_with (gi_at_call 68; refine (all_in F (n - 1) hFa hro d _).mono ?_; rintro e w' ⟨rfl, rfl⟩)
  have bO := Boxed.new W 47 (.slice none 0 0)
  have bP := Boxed.new (W.alloc (.cells #[.slice none 0 0] 47)) 25 (.slice none 0 0)
  have bN := Boxed.new ((W.alloc (.cells #[.slice none 0 0] 47)).alloc (.cells #[.slice none 0 0] 25)) 29 (.pointer (some ⟨d, 0, none⟩))
  simp only [World.size_alloc] at bP bN
  obtain ⟨Wl, hWl⟩ : ∃ Wl, ((W.alloc (.cells #[.slice none 0 0] 47)).alloc (.cells #[.slice none 0 0] 25)).alloc (.cells #[.pointer (some ⟨d, 0, none⟩)] 29) = Wl := ⟨_, rfl⟩
  have hsz : W.heap.size + 3 = Wl.heap.size := by rw [← hWl]; simp
  have hE0 : Eb W (.slice none 0 0) (.slice none 0 0) [] [] Wl := by
    rw [← hWl]
    exact ⟨(bO.alloc _).alloc _, bP.alloc _, World.ownsRow_nil _ _ _ _, World.ownsRow_nil _ _ _ _, (fun g h => by cases h), ((Fr.alloc (fun _ => False) W _).thenAlloc _).thenAlloc _⟩
  rw [hWl] at bN ⊢
  have HAl : Hid (Al d (W.heap.size + 1 + 1) M Wl) := ⟨HA.out.dat.fr hE0.fr (fun _ _ h => h), bN⟩
  have HE0 := Lib.hid hE0
  have HSZ := Lib.hid hsz
  clear hE0 bO bP bN hWl hcb hsz
  refine wpIn_rangeV hro h1 (gf := 99) (lb := #[.pointer (some ⟨W.heap.size + 1 + 1, 0, none⟩)]) rfl hFb (enters_of Try.func99 (by kernel_rfl) rfl)
    (all1_stops F (n - 1) hFb hro (by omega) (W.heap.size + 1 + 1) d M (Keep (fun k _ => k = W.heap.size + 1 + 1 ∨ Bs (dictL d M) k)) (fun _ _ h => h) Wl HAl.out)
    (fun _ _ _ h k => h.trans k) (fun V l r r' _ h => Keep.putLoop _ V l r _ h) (Below.refl _ _) (fun _ => rfl)
    (fun pre V => (∃ v1 v2, Eb W v1 v2 (pre.flatten.map E.key) pre.flatten V) ∧ Boxed V (W.heap.size + 1 + 1) 29 (.pointer (some ⟨d, 0, none⟩)))
    (fun _ _ _ => False)
    ?own (fun _ _ _ _ _ hs _ _ => hs) ⟨⟨_, _, HE0.out⟩, HAl.out.box⟩
    (fun x => { tmps := #[.func (.yield l) #[] #[], .pointer (some ⟨Bd, 0, none⟩), undef, .pointer (some ⟨W.heap.size, 0, none⟩), .pointer (some ⟨W.heap.size + 1, 0, none⟩), hp x, undef, undef, .pointer (some ⟨d, 0, none⟩), .bool false, .pointer (some ⟨d, 0, none⟩), .func (.func 99) #[] #[.pointer (some ⟨W.heap.size + 1 + 1, 0, none⟩)], hp x, undef, undef, undef, undef, undef, undef, undef, undef, undef, undef, undef, undef, undef, undef, undef, undef, undef, undef, undef, undef, undef, undef, undef, undef, undef, undef, undef, undef, undef, undef, undef, undef, undef, undef, undef, undef], defers := [] }) ?assign ?body ?done ?stop
  case own =>
    rintro pre A B row ⟨⟨v1, v2, hE⟩, hb⟩ hg hr
    have hr' : ∀ r, row = some r → W.heap.size ≤ r ∧ ∃ o : Obj, A.heap[r]? = some o ∧ o.isCells = false := fun r e => ⟨by have := (hr r e).1; have := HSZ.out; omega, (hr r e).2⟩
    refine ⟨⟨v1, v2, hE.turn hg hr'⟩, hb.kept hg (fun e => ?_)⟩
    obtain ⟨_, o, ho, hc⟩ := hr _ e.symm
    rw [show A.heap[W.heap.size + 1 + 1]? = _ from hb] at ho
    cases ho
    cases hc
  case assign =>
    intro lr x V K hK
    unfold bkE
    gi_wp2
    exact hK
  case body =>
    rintro lr pre x V ⟨⟨v1, v2, hE⟩, hb⟩ hv
    have hx : x ∈ opn M := hv.subset (by simp)
    have HX := Lib.hid hx
    have HV := Lib.hid hv
    have HE := Lib.hid hE
    have HB := Lib.hid hb
    clear hE hb hv hx HE0
    gi_wp2_with fail
    gi_loopg [5] x.length (fun gh p wr => ∃ (c1 c2 : List E), p = hp c2 ∧ Hid (x = c1 ++ c2) ∧ Hid (c2.length ≤ gh) ∧ Hid (∃ v1 v2, Eb W v1 v2 ((pre.flatten ++ c1).map E.key) (pre.flatten ++ c1) wr) ∧ Hid (Boxed wr (W.heap.size + 1 + 1) 29 (.pointer (some ⟨d, 0, none⟩))) ∧ Hid (KeepsOthers V wr) ∧ Hid (Keep (fun k _ => k = W.heap.size + 1 + 1 ∨ Bs (dictL d M) k) V wr))
    case atStart => exact ⟨[], x, rfl, (show x = [] ++ x from rfl), Nat.le_refl _, ⟨v1, v2, by rw [List.append_nil]; exact HE.out⟩, HB.out, KeepsOthers.refl _, Keep.refl _ _⟩
    case round =>
      obtain ⟨c1, c2, rfl, HXC, HL, HE1, HB1, HKO, HKE⟩ := hrel
      obtain ⟨wo, rfl⟩ : ∃ x, x = wr := ⟨_, rfl⟩
      clear HE HB
      cases c2 with
      | nil =>
        have hp0 : hp ([] : List E) = .pointer none := rfl
        rw [hp0]
        gi_wp2
        obtain ⟨u1, u2, hE⟩ := HE1.out
        have hxc := HXC.out
        rw [List.append_nil] at hxc
        refine ⟨HKO.out, HKE.out, ⟨u1, u2, ?_⟩, HB1.out⟩
        have e1 : (pre ++ [x]).flatten = pre.flatten ++ c1 := by rw [hxc]; simp
        rw [e1]
        exact hE
      | cons e c2 =>
        have hp0 : hp (e :: c2) = .pointer (some ⟨e.b, 0, none⟩) := rfl
        obtain ⟨u1, u2, hE⟩ := HE1.out
        have hle := opn_le HA.out.dat.inv HV.out HXC.out
        simp only [List.length_cons] at hle
        obtain ⟨N1, hN1⟩ : ∃ N, (pre.flatten ++ c1).length = N := ⟨_, rfl⟩
        have hnk : ((pre.flatten ++ c1).map E.key).length = N1 := by rw [List.length_map]; exact hN1
        rw [hN1] at hle
        have hN2 : N1 ≤ 8796093021999 := by omega
        have hMID : Hid (∀ V : World, Fr (fun _ => False) W V → V.heap[e.b]? = some (entryObj 114 e (hp c2)) ∧ e.val.length = 1) := fun V hf => opn_mid (HA.out.dat.fr hf (fun _ _ h => h)) HX.out HXC.out
        obtain ⟨hmid, hsz⟩ := hMID.out wo hE.fr
        unfold entryObj at hmid
        have hlt2 : e.b < W.heap.size := by
          have := (opn_mid HA.out.dat HX.out HXC.out).1
          exact (Array.getElem?_eq_some_iff.1 this).1
        have hc0 : wo.cell? ⟨e.b, 0, none⟩ = some (.string e.key) := by rw [cell_of_blk hmid]; rfl
        have hcb := hE.b1.cell
        have hbl1 : W.heap.size < wo.heap.size := hE.b1.lt
        have HEo := Lib.hid hE
        have HNK := Lib.hid hnk
        have HN1 := Lib.hid hN1
        have HSZV := Lib.hid hsz
        rw [hp0]
        clear hE hmid hsz hle hnk hN1 HE1
        gi_upto_region 7 with (fail)
        gi_cut [25, 33, 34, 35, 36, 37, 38, 39, 40, 41, 42, 43, 44, 45, 46, 47, 48] from 19 (fun t25 t33 t34 t35 t36 t37 t38 t39 t40 t41 t42 t43 t44 t45 t46 t47 t48 wc => ∃ v1, t25 = v1 ∧ (t33 = undef ∧ t34 = undef ∧ t35 = undef ∧ t36 = undef ∧ t37 = undef ∧ t38 = undef ∧ t39 = undef ∧ t40 = undef ∧ t41 = undef ∧ t42 = undef ∧ t43 = undef ∧ t44 = undef ∧ t45 = undef ∧ t46 = undef ∧ t47 = undef ∧ t48 = undef) ∧ Hid (Eb W v1 u2 ((pre.flatten ++ c1).map E.key ++ [e.key]) (pre.flatten ++ c1) wc) ∧ Hid (Fr (Wr W u1 u2) wo wc))
        case first =>
          have hro1 : HEo.out.r1.1 = HEo.out.r1.1 := rfl
          clear hro1
          have HR1 : Hid (∀ V : World, Fr (fun _ => False) wo V → V.ownsRow W.heap.size 9 1 u1 N1 (((pre.flatten ++ c1).map E.key).map .string)) := fun V hf => by have h := (HEo.out.quiet hf).r1; rw [HNK.out] at h; exact h
          have HB0 : Hid (W.heap.size ≤ wo.heap.size) := HEo.out.fr.size
          have HAP : Hid (∀ (A1 w' : World) (v' : Value), Fr (fun _ => False) wo A1 → w'.ownsRow W.heap.size 9 1 v' (N1 + 1) (((pre.flatten ++ c1).map E.key).map .string ++ [.string e.key]) → A1.grownBy w' u1.ownBlock → (v'.ownBlock = u1.ownBlock ∨ v'.ownBlock = some A1.heap.size) →
              Eb W v' u2 ((pre.flatten ++ c1).map E.key ++ [e.key]) (pre.flatten ++ c1) (w'.setCell ⟨W.heap.size, 0, none⟩ v') ∧ Fr (Wr W u1 u2) wo (w'.setCell ⟨W.heap.size, 0, none⟩ v') ∧ w'.cell? ⟨W.heap.size, 0, none⟩ = some u1 ∧ w'.frozen? ⟨W.heap.size, 0, none⟩ = false) := fun A1 w' v' hf hr hg ho => HEo.out.app1 hf (by rw [HNK.out]; exact hr) hg ho
          refine wpIn_region_any (by kernel_rfl) ?_
          change wpAnyIn _ _ _ _ _ _ _ _ _ (World.drew _)
          repeat' (first
            | (refine wpAnyIn_done (by decide +kernel) ?_ _)
            | (refine wpAnyIn_ready (rs := [0, 1]) (by decide +kernel) (by simp) (AllReadyIn.cons rfl (fun K hK => ?_) (AllReadyIn.cons rfl (fun K hK => ?_) AllReadyIn.nil))) | (refine wpAnyIn_ready (rs := [0, 2]) (by decide +kernel) (by simp) (AllReadyIn.cons rfl (fun K hK => ?_) (AllReadyIn.cons rfl (fun K hK => ?_) AllReadyIn.nil))) | (refine wpAnyIn_ready (rs := [0, 3]) (by decide +kernel) (by simp) (AllReadyIn.cons rfl (fun K hK => ?_) (AllReadyIn.cons rfl (fun K hK => ?_) AllReadyIn.nil))) | (refine wpAnyIn_ready (rs := [0, 4]) (by decide +kernel) (by simp) (AllReadyIn.cons rfl (fun K hK => ?_) (AllReadyIn.cons rfl (fun K hK => ?_) AllReadyIn.nil))) | (refine wpAnyIn_ready (rs := [0, 5]) (by decide +kernel) (by simp) (AllReadyIn.cons rfl (fun K hK => ?_) (AllReadyIn.cons rfl (fun K hK => ?_) AllReadyIn.nil))) | (refine wpAnyIn_ready (rs := [0]) (by decide +kernel) (by simp) (AllReadyIn.cons rfl (fun K hK => ?_) AllReadyIn.nil)) | (refine wpAnyIn_ready (rs := [1]) (by decide +kernel) (by simp) (AllReadyIn.cons rfl (fun K hK => ?_) AllReadyIn.nil)) | (refine wpAnyIn_ready (rs := [2]) (by decide +kernel) (by simp) (AllReadyIn.cons rfl (fun K hK => ?_) AllReadyIn.nil)) | (refine wpAnyIn_ready (rs := [3]) (by decide +kernel) (by simp) (AllReadyIn.cons rfl (fun K hK => ?_) AllReadyIn.nil)) | (refine wpAnyIn_ready (rs := [4]) (by decide +kernel) (by simp) (AllReadyIn.cons rfl (fun K hK => ?_) AllReadyIn.nil)) | (refine wpAnyIn_ready (rs := [5]) (by decide +kernel) (by simp) (AllReadyIn.cons rfl (fun K hK => ?_) AllReadyIn.nil)) | (refine wpAnyIn_ready (rs := [6]) (by decide +kernel) (by simp) (AllReadyIn.cons rfl (fun K hK => ?_) AllReadyIn.nil)) | (refine wpAnyIn_ready (rs := [7]) (by decide +kernel) (by simp) (AllReadyIn.cons rfl (fun K hK => ?_) AllReadyIn.nil))
            | (refine step_append_in rfl (.tmp 19) (.tmp 24) 47 rfl W.heap.size 9 i0 (.string ⟨#[]⟩) 1 16 Try.underlying47 HI.out HZ0.out HZ1.out HZ2.out rfl (by decide) u1 N1 (((pre.flatten ++ c1).map E.key).map .string) rfl ⟨wo.heap.size, 0, none⟩ 1 1 [.string e.key] rfl rfl (by simp [Value.oneCell']) (by unfold maxLen; omega) (by omega) ?_ ?_ ?_ ?_; (refine HR1.out _ ?_; exact ((Fr.drew (fun _ => False) wo).thenAlloc _)); exact cell_one_new _ _ _; (have := HB0.out; simp; omega); (intro v' w' hr' hg' ho'; obtain ⟨q1, q2, q3, q4⟩ := HAP.out _ w' v' ((Fr.drew (fun _ => False) wo).thenAlloc _) hr' hg' ho'; have Q1 := Lib.hid q1; have Q2 := Lib.hid q2; obtain ⟨va, vc, rfl⟩ := owns_slice hr'; clear hr' hg' ho' q1 q2; refine hK _ _ ?_; clear hK K))
            | (go_simp; refine hK _ _ ?_; clear hK K))
          all_goals
            gi_wp2
            gi_meet
            case rel => exact ⟨_, rfl, ⟨rfl, rfl, rfl, rfl, rfl, rfl, rfl, rfl, rfl, rfl, rfl, rfl, rfl, rfl, rfl, rfl⟩, Q1.out, Q2.out⟩
        case rest =>
          obtain ⟨_, rfl, ⟨rfl, rfl, rfl, rfl, rfl, rfl, rfl, rfl, rfl, rfl, rfl, rfl, rfl, rfl, rfl, rfl⟩, HE2, HF2⟩ := hcut
          have HKO2 : Hid (KeepsOthers V wc) := HKO.out.trans (HEo.out.others HF2.out)
          have HKE2 : Hid (Keep (fun k _ => k = W.heap.size + 1 + 1 ∨ Bs (dictL d M) k) V wc) := HKE.out.trans (HEo.out.keep HF2.out HA.out.dat HB1.out)
          have HB2 : Hid (Boxed wc (W.heap.size + 1 + 1) 29 (.pointer (some ⟨d, 0, none⟩))) := HEo.out.keep HF2.out HA.out.dat HB1.out _ _ _ _ (.inl rfl) HB1.out
          obtain ⟨wo, rfl⟩ : ∃ x, x = wc := ⟨_, rfl⟩
          clear HKO HKE HEo HF2 HB1 hc0 hcb hbl1
          obtain ⟨hmid, hsz⟩ := hMID.out wo HE2.out.fr
          unfold entryObj at hmid
          have hcb := HE2.out.b2.cell
          have hbl2 : W.heap.size + 1 < wo.heap.size := HE2.out.b2.lt
          have hbl1 : W.heap.size < wo.heap.size := HE2.out.b1.lt
          have hnx : Hid (∀ V : World, Fr (fun _ => False) W V → V.cell? ⟨e.b, 2, none⟩ = some (hp c2)) := fun V hf => by
            obtain ⟨h1, h2⟩ := hMID.out V hf
            unfold entryObj at h1
            rw [cell_of_blk h1]
            match hv : e.val, h2 with
            | [x0], _ => rfl
          obtain ⟨xx, hv⟩ := HVAL.out e (List.mem_flatten.2 ⟨x, HX.out, by rw [HXC.out]; simp⟩)
          have hc1 : wo.cell? ⟨e.b, 1, none⟩ = some (.int .i64 xx) := by rw [cell_of_blk hmid, hv]; rfl
          have HV2 := Lib.hid hv
          clear hmid hsz hv
          gi_upto_region 8 with (fail)
          have HR1 : Hid (∀ V : World, Fr (fun _ => False) wo V → V.ownsRow W.heap.size 3 1 u2 N1 ((pre.flatten ++ c1).flatMap E.val)) := fun V hf => by have h := (HE2.out.quiet hf).r2; rw [HN1.out] at h; exact h
          have HB0 : Hid (W.heap.size ≤ wo.heap.size) := HE2.out.fr.size
          have HAP : Hid (∀ (A1 w' : World) (v' : Value), Fr (fun _ => False) wo A1 → w'.ownsRow W.heap.size 3 1 v' (N1 + 1) ((pre.flatten ++ c1).flatMap E.val ++ [.int .i64 xx]) → A1.grownBy w' u2.ownBlock → (v'.ownBlock = u2.ownBlock ∨ v'.ownBlock = some A1.heap.size) →
              Eb W u25 v' ((pre.flatten ++ c1).map E.key ++ [e.key]) ((pre.flatten ++ c1) ++ [e]) (w'.setCell ⟨W.heap.size + 1, 0, none⟩ v') ∧ Fr (Wr W u25 u2) wo (w'.setCell ⟨W.heap.size + 1, 0, none⟩ v') ∧ w'.cell? ⟨W.heap.size + 1, 0, none⟩ = some u2 ∧ w'.frozen? ⟨W.heap.size + 1, 0, none⟩ = false) := fun A1 w' v' hf hr hg ho => HE2.out.app2 hf (by rw [HN1.out, HV2.out]; exact hr) hg ho
          refine wpIn_region_any (by kernel_rfl) ?_
          change wpAnyIn _ _ _ _ _ _ _ _ _ (World.drew _)
          repeat' (first
            | (refine wpAnyIn_done (by decide +kernel) ?_ _)
            | (refine wpAnyIn_ready (rs := [0, 1]) (by decide +kernel) (by simp) (AllReadyIn.cons rfl (fun K hK => ?_) (AllReadyIn.cons rfl (fun K hK => ?_) AllReadyIn.nil))) | (refine wpAnyIn_ready (rs := [0, 2]) (by decide +kernel) (by simp) (AllReadyIn.cons rfl (fun K hK => ?_) (AllReadyIn.cons rfl (fun K hK => ?_) AllReadyIn.nil))) | (refine wpAnyIn_ready (rs := [0, 3]) (by decide +kernel) (by simp) (AllReadyIn.cons rfl (fun K hK => ?_) (AllReadyIn.cons rfl (fun K hK => ?_) AllReadyIn.nil))) | (refine wpAnyIn_ready (rs := [0, 4]) (by decide +kernel) (by simp) (AllReadyIn.cons rfl (fun K hK => ?_) (AllReadyIn.cons rfl (fun K hK => ?_) AllReadyIn.nil))) | (refine wpAnyIn_ready (rs := [0, 5]) (by decide +kernel) (by simp) (AllReadyIn.cons rfl (fun K hK => ?_) (AllReadyIn.cons rfl (fun K hK => ?_) AllReadyIn.nil))) | (refine wpAnyIn_ready (rs := [0]) (by decide +kernel) (by simp) (AllReadyIn.cons rfl (fun K hK => ?_) AllReadyIn.nil)) | (refine wpAnyIn_ready (rs := [1]) (by decide +kernel) (by simp) (AllReadyIn.cons rfl (fun K hK => ?_) AllReadyIn.nil)) | (refine wpAnyIn_ready (rs := [2]) (by decide +kernel) (by simp) (AllReadyIn.cons rfl (fun K hK => ?_) AllReadyIn.nil)) | (refine wpAnyIn_ready (rs := [3]) (by decide +kernel) (by simp) (AllReadyIn.cons rfl (fun K hK => ?_) AllReadyIn.nil)) | (refine wpAnyIn_ready (rs := [4]) (by decide +kernel) (by simp) (AllReadyIn.cons rfl (fun K hK => ?_) AllReadyIn.nil)) | (refine wpAnyIn_ready (rs := [5]) (by decide +kernel) (by simp) (AllReadyIn.cons rfl (fun K hK => ?_) AllReadyIn.nil)) | (refine wpAnyIn_ready (rs := [6]) (by decide +kernel) (by simp) (AllReadyIn.cons rfl (fun K hK => ?_) AllReadyIn.nil)) | (refine wpAnyIn_ready (rs := [7]) (by decide +kernel) (by simp) (AllReadyIn.cons rfl (fun K hK => ?_) AllReadyIn.nil))
            | (refine step_append_in rfl (.tmp 26) (.tmp 31) 25 rfl W.heap.size 3 j0 (.int .i64 0) 1 8 Try.underlying25 HJ0.out HY0.out HY1.out HY2.out rfl (by decide) u2 N1 ((pre.flatten ++ c1).flatMap E.val) rfl ⟨wo.heap.size, 0, none⟩ 1 1 [.int .i64 xx] rfl rfl (by simp [Value.oneCell']) (by unfold maxLen; omega) (by omega) ?_ ?_ ?_ ?_; (refine HR1.out _ ?_; exact ((Fr.drew (fun _ => False) wo).thenAlloc _)); exact cell_one_new _ _ _; (have := HB0.out; simp; omega); (intro v' w' hr' hg' ho'; obtain ⟨q1, q2, q3, q4⟩ := HAP.out _ w' v' ((Fr.drew (fun _ => False) wo).thenAlloc _) hr' hg' ho'; have Q1 := Lib.hid q1; have Q2 := Lib.hid q2; obtain ⟨va, vc, rfl⟩ := owns_slice hr'; clear hr' hg' ho' q1 q2; refine hK _ _ ?_; clear hK K))
            | (go_simp; refine hK _ _ ?_; clear hK K))
          all_goals
            obtain ⟨wc, hwc⟩ : ∃ wc, w'.setCell ⟨W.heap.size + 1, 0, none⟩ (.slice va (N1 + 1) vc) = wc := ⟨_, rfl⟩
            rw [hwc] at Q1 Q2 ⊢
            clear hwc
            have HKO3 : Hid (KeepsOthers V wc) := HKO2.out.trans (HE2.out.others Q2.out)
            have HKE3 : Hid (Keep (fun k _ => k = W.heap.size + 1 + 1 ∨ Bs (dictL d M) k) V wc) := HKE2.out.trans (HE2.out.keep Q2.out HA.out.dat HB2.out)
            have HB3 : Hid (Boxed wc (W.heap.size + 1 + 1) 29 (.pointer (some ⟨d, 0, none⟩))) := HE2.out.keep Q2.out HA.out.dat HB2.out _ _ _ _ (.inl rfl) HB2.out
            have hc2 := hnx.out wc Q1.out.fr
            have HXC2 : Hid (x = (c1 ++ [e]) ++ c2) := by show _ = _; rw [HXC.out, List.append_assoc]; rfl
            have HE4 : Hid (∃ v1 v2, Eb W v1 v2 ((pre.flatten ++ (c1 ++ [e])).map E.key) (pre.flatten ++ (c1 ++ [e])) wc) := ⟨u25, _, by rw [← List.append_assoc, List.map_append]; exact Q1.out⟩
            clear hc1 hcb q3 q4 hbl1 hbl2
            gi_wp2
            gi_roundg c2.length
            case measure => have := HL.out; simp only [List.length_cons] at this; omega
            case rel => exact ⟨c1 ++ [e], c2, rfl, HXC2.out, Nat.le_refl _, HE4.out, HB3.out, HKO3.out, HKE3.out⟩
  case done =>
    rintro D ys V hD rfl ⟨⟨v1, v2, hE⟩, hb⟩ hK
    have HE := Lib.hid hE
    have HK := Lib.hid hK
    have HD := Lib.hid hD
    have hN : (opn M).flatten.length = M.n := by rw [opn_flatten HA.out.dat.inv, HA.out.dat.inv.count]
    obtain ⟨N, hN2⟩ : ∃ N, (opn M).flatten.length = N := ⟨_, rfl⟩
    have hN3 : N ≤ 8796093022000 := by omega
    have hNk : ((opn M).flatten.map E.key).length = N := by rw [List.length_map]; exact hN2
    have hr1 := hE.r1
    have hr2 := hE.r2
    rw [hNk] at hr1
    rw [hN2] at hr2
    obtain ⟨a1, c1, rfl⟩ := owns_slice hr1
    obtain ⟨a2, c2, rfl⟩ := owns_slice hr2
    have HR1 := Lib.hid hr1
    have HR2 := Lib.hid hr2
    have hc1 := hE.b1.cell
    have HN2 := Lib.hid hN2
    have hsz := HSZ.out
    have HJ1 : Hid (J [] V) := HJ.out [] W V none H0.out ⟨hE.fr.os, hE.fr.tape, hE.fr.output, hE.fr.size, fun k hk _ => hE.fr.block k hk (fun h => h)⟩ (fun r e => by cases e)
    clear hE hb hK hD hN hN2 hNk hr1 hr2 HE0 HAl hsz
    gi_wp2
    gi_loopw [6, 7, 35] (fun _ _ i wr => ∃ (k : Nat) (pre : List E), i = .int .i64 k ∧ k ≤ N ∧ Hid (pre = (opn M).flatten.take k) ∧ Hid (Keep (fun k t => n0 ≤ k ∧ (t = 9 ∨ t = 3 ∨ t = 47 ∨ t = 25)) V wr) ∧ Hid (Late n0 V wr) ∧ Hid (J pre wr)) (fun _ _ i _ => N - (intOf i).toNat)
    case atStart => exact ⟨0, [], rfl, by omega, (show _ = _ from rfl), Keep.refl _ _, (fun _ _ _ h => h), HJ1.out⟩
    case round =>
      obtain ⟨k, pre, rfl, hk, HPR, HKP2, HLT, HJ2⟩ := hrel
      clear HJ1 hc1
      have HD2 : Hid (wr.heap[D]? = some (.deferred (some []))) := HLT.out D _ (by have := HD.out; have := HSZ.out; omega) HK.out
      by_cases hltk : k < N
      · obtain ⟨e, he⟩ : ∃ e, (opn M).flatten[k]? = some e := ⟨_, List.getElem?_eq_getElem (by rw [HN2.out]; exact hltk)⟩
        have hmem : e ∈ (opn M).flatten := List.mem_of_getElem? he
        obtain ⟨xx, hv⟩ := HVAL.out e hmem
        have hk1 : ((opn M).flatten.map E.key).map Value.string = (opn M).flatten.map fun e => .string e.key := by rw [List.map_map]; rfl
        obtain ⟨g1, cap1, q1, -, hcell1⟩ := own_at (own_keep HR1.out HKP2.out (fun k h => ⟨by omega, .inl rfl⟩)) (by rw [List.length_map, List.length_map, HN2.out]; omega)
        obtain ⟨g2, cap2, q2, -, hcell2⟩ := own_at (own_keep HR2.out HKP2.out (fun k h => ⟨by omega, .inr (.inl rfl)⟩)) (by have := HR2.out.1; rw [this]; omega)
        cases q1
        cases q2
        have hcx := hcell1 k (.string e.key) (by rw [hk1, List.getElem?_map, he]; rfl)
        have hcv := hcell2 (k * 1 + 0) (.int .i64 xx) (by
          obtain ⟨hk3, he3⟩ := List.getElem?_eq_some_iff.1 he
          rw [flat_mem E.val 1 _ (fun y hy => by obtain ⟨z, hz⟩ := HVAL.out y hy; rw [hz]; rfl) k 0 hk3 (by decide), he3, hv]
          rfl)
        rw [Nat.mul_one, Nat.add_zero] at hcv
        have hcb2 : wr.cell? ⟨W.heap.size + 1, 0, none⟩ = some (.slice (some ⟨g2, 0, none⟩) N c2) := (show Boxed wr (W.heap.size + 1) 25 _ from HKP2.out _ _ _ _ ⟨by omega, .inr (.inr (.inr rfl))⟩ HE.out.b2).cell
        have HPR2 : Hid (pre ++ [e] = (opn M).flatten.take (k + 1)) := by show _ = _; rw [HPR.out, List.take_add_one, he]; rfl
        obtain ⟨fn, tmps, assign, body, hy, hR⟩ := HY.out pre e wr HJ2.out (by rw [HPR2.out]; exact List.take_prefix _ _)
        dsimp only [etE] at hy
        rw [hv] at hy
        dsimp only [List.headD_cons] at hy
        have HR := Lib.hid hR
        have b0 : (0 : Int) ≤ (k : Int) := by omega
        have b1 : (k : Int) < (N : Int) := by omega
        clear hR hk1 hcell1 hcell2 he hmem hv
        gi_wp2
        refine HR.out.mono ?_
        rintro e3 W3 (⟨rfl, hJ3, hk3⟩ | ⟨rfl, hJx3, hlate⟩)
        · obtain ⟨hk4, hk5⟩ := HKP.out _ _ hk3
          have HK3 := Lib.hid (HKP2.out.trans hk4)
          have HL3 := Lib.hid (HLT.out.trans hk5)
          have HJ3 := Lib.hid hJ3
          clear hJ3 hk3 hk4 hk5
          gi_wp2
          go_roundw
          case rel => exact ⟨k + 1, pre ++ [e], by go_num, by omega, HPR2, HK3, HL3, HJ3⟩
          case measure => simp [intOf]; omega
        · have HJ3 := Lib.hid hJx3
          have HD3 : Hid (W3.heap[D]? = some (.deferred (some []))) := hlate D _ (Nat.zero_le _) HD2.out
          clear hJx3 hlate
          gi_wp2
          refine ⟨by simp, .inl ⟨_, _, rfl, run_takeDeferred HD3.out, ?_⟩⟩
          refine ⟨_, results_none rfl _ _ _, ⟨_, rfl⟩, .inr ⟨pre ++ [e], by rw [HPR2.out]; exact List.take_prefix _ _, ?_⟩⟩
          exact HJX.out.putObj _ HJ3.out (by have := HD.out; have := HSZ.out; omega) HD3.out rfl
      · obtain rfl : k = N := by omega
        gi_wp2
        refine ⟨by simp, .inl ⟨_, _, rfl, run_takeDeferred HD2.out, ?_⟩⟩
        refine ⟨_, results_none rfl _ _ _, ⟨_, rfl⟩, .inl ⟨pre, by rw [HPR.out, List.take_of_length_le (by rw [HN2.out]; exact Nat.le_refl _)], ?_⟩⟩
        exact HJ.out.putObj _ HJ2.out (by have := HD.out; have := HSZ.out; omega) HD2.out rfl
  case stop =>
    rintro D c pre V _ _ h _
    exact h.elim
end Go.Proofs.Ytkecipdonamjaaa.Di
