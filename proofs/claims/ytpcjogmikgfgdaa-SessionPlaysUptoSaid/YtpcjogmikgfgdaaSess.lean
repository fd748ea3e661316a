/- A session in memory: what it holds, and what keeps it. No condition. -/
import Derived.Test.YtpcjogmikgfgdaaSMap
import Derived.Deep.RegionLaw
import Derived.Deep.AppendLies
import Derived.Outline
namespace Go.Proofs.Ytpcjogmikgfgdaa
open Go.RowKit

/-- what a session holds -/
structure SS where
  op : Bool
  sp : Bool
  di : Bool
  q : List (List ByteArray)
  wt : List ByteArray
/-- a block of texts -/
def TB (w : World) (g : Nat) : Prop := ∃ cs, w.heap[g]? = some (.cells cs 9 (0, 0))
theorem TB.lt {w : World} {g : Nat} (h : TB w g) : g < w.heap.size := by obtain ⟨cs, h⟩ := h; exact (Array.getElem?_eq_some_iff.1 h).1
theorem not_tb {w : World} {g : Nat} {cs : Array Value} {t : TypeId} (h : w.heap[g]? = some (.cells cs t (0, 0))) (ht : t ≠ 9) : ¬ TB w g := by
  rintro ⟨cs', h'⟩
  rw [h] at h'
  simp only [Option.some.injEq, Obj.cells.injEq] at h'
  exact ht h'.2.1
theorem not_tb_map {w : World} {g : Nat} {es : Array MapEntry} {c : Nat} (h : w.heap[g]? = some (.map es c)) : ¬ TB w g := by
  rintro ⟨cs', h'⟩
  rw [h] at h'
  cases h'
theorem own_blk {w : World} {B : Nat} {e : TypeId} {size : Nat} {v : Value} {n : Nat} {xs : List Value} (h : w.ownsRow B e size v n xs) {g : Nat} (hg : v.ownBlock = some g) : B ≤ g ∧ g < w.heap.size ∧ ∃ cs, w.heap[g]? = some (.cells cs e (0, 0)) := by
  rcases h.2 with ⟨rfl, _⟩ | ⟨g', cap, cur, rfl, hb, hg', _⟩
  · cases hg
  · cases hg
    exact ⟨hb, (Array.getElem?_eq_some_iff.1 hg').1, cur, hg'⟩
/-- a list of texts in blocks of texts -/
def Txt (w : World) (v : Value) (l : List ByteArray) : Prop := RdC w 1 v l.length (l.map .string) ∧ ∀ g, v.ownBlock = some g → TB w g
section
variable {w w' : World} {T : Nat → Prop} {v : Value} {l : List ByteArray} {vs : List Value} {ls : List (List ByteArray)}
theorem TB.fr {g : Nat} (h : TB w g) (hf : Fr T w w') (hT : ¬ T g) : TB w' g := by
  have hlt := h.lt
  obtain ⟨cs, h⟩ := h
  exact ⟨cs, (hf.block g hlt hT).trans h⟩
theorem Txt.fr (h : Txt w v l) (hf : Fr T w w') (hT : ∀ k, T k → ¬ TB w k) : Txt w' v l :=
  ⟨h.1.fr hf (fun g hg ht => hT g ht (h.2 g hg)), fun g hg => (h.2 g hg).fr hf (fun ht => hT g ht (h.2 g hg))⟩
theorem Txt.of_owns {B : Nat} (h : w.ownsRow B 9 1 v l.length (l.map .string)) : Txt w v l :=
  ⟨RdC.of_owns h, fun g hg => (own_blk h hg).2.2⟩
/-- lists of texts, one by one -/
def Txts (w : World) (vs : List Value) (ls : List (List ByteArray)) : Prop := vs.length = ls.length ∧ ∀ (i : Nat) (l : List ByteArray), ls[i]? = some l → ∃ v, vs[i]? = some v ∧ Txt w v l
theorem Txts.nil (w : World) : Txts w [] [] := ⟨rfl, fun i l h => by simp at h⟩
theorem Txts.fr (h : Txts w vs ls) (hf : Fr T w w') (hT : ∀ k, T k → ¬ TB w k) : Txts w' vs ls :=
  ⟨h.1, fun i l hl => by obtain ⟨v, h1, h2⟩ := h.2 i l hl; exact ⟨v, h1, h2.fr hf hT⟩⟩
theorem Txts.snoc (h : Txts w vs ls) (hv : Txt w v l) : Txts w (vs ++ [v]) (ls ++ [l]) := by
  refine ⟨by simp [h.1], fun i x hx => ?_⟩
  rw [List.getElem?_append] at hx
  split at hx
  · obtain ⟨u, h1, h2⟩ := h.2 i x hx
    have := (List.getElem?_eq_some_iff.1 h1).1
    exact ⟨u, by rw [List.getElem?_append_left this]; exact h1, h2⟩
  · rename_i hge
    have hi : i - ls.length = 0 := by
      have := (List.getElem?_eq_some_iff.1 hx).1
      simp at this; omega
    rw [hi] at hx
    cases hx
    exact ⟨v, by rw [List.getElem?_append_right (by rw [h.1]; omega), h.1, hi]; rfl, hv⟩
theorem txts_one (h : Txts w vs ls) : ∀ u ∈ vs, u.oneCell' = true := by
  intro u hu
  obtain ⟨i, hi, rfl⟩ := List.getElem_of_mem hu
  have hl : i < ls.length := by rw [← h.1]; exact hi
  obtain ⟨v, h1, h2⟩ := h.2 i _ (List.getElem?_eq_getElem hl)
  rw [List.getElem?_eq_getElem hi] at h1
  cases h1
  obtain ⟨-, a, c, e, -⟩ := h2.1
  rw [e]; rfl
end
/-- a session at block p, its map at block m, its list of commands by vq -/
structure SessAt (w : World) (B p m : Nat) (vq : Value) (S : SS) : Prop where
  blk : w.heap[p]? = some (.cells #[.bool S.op, .bool S.sp, .bool S.di, vq, .map (some m)] 99 (0, 0))
  row : ∃ qs, w.ownsRow B 41 1 vq S.q.length qs ∧ Txts w qs S.q
  map : MapAt w m S.wt
  bp : B ≤ p
  bm : B ≤ m
  sq : S.q.length ≤ 1024 ∧ ∀ l ∈ S.q, l.length * 16 ≤ 140737488355328
  sw : S.wt.length ≤ 1024
section
variable {w w' : World} {B p m : Nat} {vq : Value} {S S' : SS} {T : Nat → Prop}
theorem SessAt.lt (h : SessAt w B p m vq S) : p < w.heap.size := (Array.getElem?_eq_some_iff.1 h.blk).1
theorem SessAt.ntb (h : SessAt w B p m vq S) : ¬ TB w p := not_tb h.blk (by decide)
theorem SessAt.ntm (h : SessAt w B p m vq S) : ¬ TB w m := by obtain ⟨es, c, hb⟩ := h.map.isMap; exact not_tb_map hb
theorem SessAt.ntq (h : SessAt w B p m vq S) {g : Nat} (hg : vq.ownBlock = some g) : ¬ TB w g := by
  obtain ⟨qs, h1, _⟩ := h.row
  obtain ⟨_, _, cs, hc⟩ := own_blk h1 hg
  exact not_tb hc (by decide)
theorem SessAt.pm (h : SessAt w B p m vq S) : p ≠ m := by
  intro e
  obtain ⟨es, c, hb⟩ := h.map.isMap
  rw [← e, h.blk] at hb
  cases hb
theorem SessAt.pq (h : SessAt w B p m vq S) : vq.ownBlock ≠ some p := by
  intro e
  obtain ⟨qs, h1, _⟩ := h.row
  obtain ⟨_, _, cs, hc⟩ := own_blk h1 e
  rw [h.blk] at hc
  simp only [Option.some.injEq, Obj.cells.injEq] at hc
  exact absurd hc.2.1 (by decide)
theorem SessAt.mq (h : SessAt w B p m vq S) : vq.ownBlock ≠ some m := by
  intro e
  obtain ⟨qs, h1, _⟩ := h.row
  obtain ⟨_, _, cs, hc⟩ := own_blk h1 e
  obtain ⟨es, c, hb⟩ := h.map.isMap
  rw [hb] at hc
  cases hc
theorem SessAt.fr (h : SessAt w B p m vq S) (hf : Fr T w w') (hT : ∀ k, T k → k ≠ p ∧ k ≠ m ∧ vq.ownBlock ≠ some k ∧ ¬ TB w k) : SessAt w' B p m vq S := by
  obtain ⟨qs, h1, h2⟩ := h.row
  exact ⟨(hf.block p h.lt (fun e => (hT p e).1 rfl)).trans h.blk, ⟨qs, owns_fr h1 hf (fun g hg e => (hT g e).2.2.1 hg), h2.fr hf (fun k e => (hT k e).2.2.2)⟩, h.map.fr hf (fun e => (hT m e).2.1 rfl), h.bp, h.bm, h.sq, h.sw⟩
theorem SessAt.quiet (h : SessAt w B p m vq S) (hf : Fr (fun _ => False) w w') : SessAt w' B p m vq S := h.fr hf (fun _ h => h.elim)
/-- a field turned -/
theorem SessAt.set (h : SessAt w B p m vq S) (i : Nat) (v : Value) (hq : S'.q = S.q) (hw : S'.wt = S.wt)
    (he : (#[.bool S.op, .bool S.sp, .bool S.di, vq, .map (some m)] : Array Value).setIfInBounds i v = #[.bool S'.op, .bool S'.sp, .bool S'.di, vq, .map (some m)]) : SessAt (w.setCell ⟨p, i, none⟩ v) B p m vq S' := by
  have hf := Fr.setCell w ⟨p, i, none⟩ v
  obtain ⟨qs, h1, h2⟩ := h.row
  have hb := heap_setCell_same w p i _ _ v h.blk
  rw [he] at hb
  exact ⟨hb, ⟨qs, by rw [hq]; exact owns_fr h1 hf (fun g hg e => h.pq (by rw [hg]; exact congrArg some e)), by rw [hq]; exact h2.fr hf (fun k e ht => h.ntb (by rw [← show k = p from e]; exact ht))⟩, by rw [hw]; exact h.map.fr hf (fun e => h.pm e.symm), h.bp, h.bm, by rw [hq]; exact h.sq, by rw [hw]; exact h.sw⟩
theorem SessAt.cell (h : SessAt w B p m vq S) (i : Nat) : w.cell? ⟨p, i, none⟩ = (#[.bool S.op, .bool S.sp, .bool S.di, vq, .map (some m)] : Array Value)[i]? := cell_of_blk h.blk i
theorem SessAt.free (h : SessAt w B p m vq S) (i : Nat) : w.frozen? ⟨p, i, none⟩ = false := free_of_blk h.blk i
end
/-- what a call to a session hands back, what the session then holds, what has turned -/
def SPost (w : World) (B p m : Nat) (vq : Value) (S' : SS) (T : Nat → Prop) (P : Ending → Prop) (e : Ending) (w' : World) : Prop := P e ∧ SessAt w' B p m vq S' ∧ Fr T w w'
section
variable (w : World) (B p m : Nat) (vq : Value) (S : SS) (h : SessAt w B p m vq S)
include h
theorem open_any : Calls Try.prog 30 #[.pointer (some ⟨p, 0, none⟩)] w fun e w' => e = .returned (.bool S.op) ∧ w = w' := by
  have c0 : w.cell? ⟨p, 0, none⟩ = some (.bool S.op) := h.cell 0
  clear h
  go_enter Try.func30, Try.ntmps30
  go_wp2
  go_ret
  exact ⟨rfl, rfl⟩
theorem spoilt_any : Calls Try.prog 31 #[.pointer (some ⟨p, 0, none⟩)] w fun e w' => e = .returned (.bool S.sp) ∧ w = w' := by
  have c1 : w.cell? ⟨p, 1, none⟩ = some (.bool S.sp) := h.cell 1
  clear h
  go_enter Try.func31, Try.ntmps31
  go_wp2
  go_ret
  exact ⟨rfl, rfl⟩
theorem dirty_any : Calls Try.prog 36 #[.pointer (some ⟨p, 0, none⟩)] w fun e w' => e = .returned (.bool S.di) ∧ w = w' := by
  have c2 : w.cell? ⟨p, 2, none⟩ = some (.bool S.di) := h.cell 2
  clear h
  go_enter Try.func36, Try.ntmps36
  go_wp2
  go_ret
  exact ⟨rfl, rfl⟩
theorem begin_any : Calls Try.prog 23 #[.pointer (some ⟨p, 0, none⟩)] w (SPost w B p m vq { S with op := true } (fun k => k = p) (fun e => e = .returned (.int .i64 (if S.op then 260 else 0)))) := by
  obtain ⟨op, sp, di, q, wt⟩ := S
  have c0 : w.cell? ⟨p, 0, none⟩ = some (.bool op) := h.cell 0
  have f0 : w.frozen? ⟨p, 0, none⟩ = false := h.free 0
  have H := Lib.hid h
  clear h
  cases op
  · go_enter Try.func23, Try.ntmps23
    go_wp2
    go_ret
    exact ⟨rfl, H.out.set 0 (.bool true) rfl rfl rfl, Fr.setCell w ⟨p, 0, none⟩ _⟩
  · go_enter Try.func23, Try.ntmps23
    go_wp2
    go_ret
    exact ⟨rfl, H.out, Fr.refl _ _⟩
theorem spoil_any : Calls Try.prog 38 #[.pointer (some ⟨p, 0, none⟩)] w (SPost w B p m vq { S with sp := S.sp || S.op } (fun k => k = p) (fun e => ∃ v, e = .returned v)) := by
  obtain ⟨op, sp, di, q, wt⟩ := S
  have c0 : w.cell? ⟨p, 0, none⟩ = some (.bool op) := h.cell 0
  have c1 : w.cell? ⟨p, 1, none⟩ = some (.bool sp) := h.cell 1
  have f1 : w.frozen? ⟨p, 1, none⟩ = false := h.free 1
  have H := Lib.hid h
  clear h
  cases op
  · go_enter Try.func38, Try.ntmps38
    go_wp2
    go_end0
    exact ⟨⟨_, rfl⟩, by simpa using H.out, Fr.refl _ _⟩
  · go_enter Try.func38, Try.ntmps38
    go_wp2
    go_end0
    exact ⟨⟨_, rfl⟩, by simpa using H.out.set (S' := ⟨true, true, di, q, wt⟩) 1 (.bool true) rfl rfl rfl, Fr.setCell w ⟨p, 1, none⟩ _⟩
end
/-- a new session -/
def NewPost (w : World) (e : Ending) (w' : World) : Prop := ∃ p m, e = .returned (.pointer (some ⟨p, 0, none⟩)) ∧ SessAt w' w.heap.size p m (.slice none 0 0) ⟨false, false, false, [], []⟩ ∧ Below w.heap.size w w'
theorem newSess_any (w : World) : Calls Try.prog 22 #[] w (NewPost w) := by
  have hmm := @run_makeMap Try.prog
  go_enter Try.func22, Try.ntmps22
  go_wp2
  go_ret
  refine ⟨w.heap.size + 1, w.heap.size, rfl, ⟨?_, ⟨[], World.ownsRow_nil _ _ _ _, Txts.nil _⟩, (mapAt_made w).fr (Fr.alloc (fun _ => False) _ _) (fun h => h), by omega, Nat.le_refl _, ⟨by decide, fun l h => by cases h⟩, by decide⟩, ((Below.refl _ _).alloc (Nat.le_refl _) _).alloc (by simp) _⟩
  have := alloc_at (w.alloc (.map #[] 0)) (.cells #[.bool false, .bool false, .bool false, .slice none 0 0, .map (some w.heap.size)] 99)
  rwa [World.size_alloc] at this
theorem infoS : (Try.prog.info? 9).map (fun i => (i.zero, i.size, i.bytes)) = some (some (.string ⟨#[]⟩), 1, 16) := by kernel_rfl
theorem infoL : (Try.prog.info? 41).map (fun i => (i.zero, i.size, i.bytes)) = some (some (.slice none 0 0), 1, 24) := by kernel_rfl
theorem one_strs (l : List ByteArray) : ∀ u ∈ l.map Value.string, u.oneCell' = true := by
  intro u hu; obtain ⟨x, _, rfl⟩ := List.mem_map.1 hu; rfl
/-- a new row of the same texts -/
def CPost (w : World) (l : List ByteArray) (e : Ending) (w' : World) : Prop :=
  ∃ a c, e = .returned (.slice a l.length c) ∧ w'.ownsRow w.heap.size 9 1 (.slice a l.length c) l.length (l.map .string) ∧ Below w.heap.size w w'
theorem owns_sliceN {w : World} {base : Nat} {e : TypeId} {sz : Nat} {v : Value} {n : Nat} {xs : List Value} (h : w.ownsRow base e sz v n xs) : ∃ a cap, v = .slice a n cap := by
  rcases h.2 with ⟨rfl, rfl⟩ | ⟨g, cap, cur, rfl, _⟩
  · exact ⟨_, _, rfl⟩
  · exact ⟨_, _, rfl⟩
set_option maxHeartbeats 400000 in
theorem cloneS_any (v : Value) (l : List ByteArray) (w : World) (h : RdC w 1 v l.length (l.map .string)) (hb : l.length * 16 ≤ 140737488355328) :
    Calls Try.prog 59 #[v] w (CPost w l) := by
  obtain ⟨i0, hi, hz0, hz1, hz2⟩ := info_parts infoS
  have hlen := h.len
  have HL := Lib.hid h
  obtain ⟨h1, a, cap, rfl, h2, h3, h4, h5⟩ := h
  clear h1 h5
  have heq := fun (w : World) (b : Option Addr) (n c : Nat) => Lib.run_eql_slice_nil (P := Try.prog) w 41 9 b n c 0 0 Try.underlying41
  cases a with
  | none =>
    obtain ⟨e1, e2⟩ := h4 rfl
    have e3 : l = [] := by simpa using e1
    subst e3; subst e2
    go_enter Try.func59, Try.ntmps59
    go_wp2
    go_ret
    exact ⟨_, _, rfl, World.ownsRow_nil _ _ _ _, Below.refl _ _⟩
  | some ad =>
    clear h4
    go_enter Try.func59, Try.ntmps59
    go_wp2_with (at_builtin; refine wpl_append rfl (.tmp 5) (.tmp 6) 41 rfl w.heap.size 9 i0 (.string ⟨#[]⟩) 1 16 Try.underlying41 hi hz0 hz1 hz2 rfl (by decide) _ 0 [] rfl (World.ownsRow_lit w #[] 0 (Nat.le_refl _) (by decide) rfl) _ l.length (l.map .string) rfl (HL.out.below ((Below.refl _ _).alloc (Nat.le_refl _) _)) (one_strs l) (by omega) (by omega) (by simp) ?_; intro v' w' hown hgrow)
    go_ret
    rw [Nat.zero_add] at hown
    obtain ⟨a', c', rfl⟩ := owns_sliceN hown
    refine ⟨a', c', rfl, by simpa using hown, ?_⟩
    exact ((Below.refl _ _).alloc (Nat.le_refl _) _).grown hgrow (by simp) (fun k e => by cases e; exact Nat.le_refl _)
section
variable (w : World) (B p m : Nat) (vq : Value) (op sp di : Bool) (q : List (List ByteArray)) (wt : List ByteArray) (v : Value) (l : List ByteArray)
theorem queue_shut (h : SessAt w B p m vq ⟨false, sp, di, q, wt⟩) : Calls Try.prog 25 #[.pointer (some ⟨p, 0, none⟩), v] w fun e w' => e = .returned (.int .i64 260) ∧ w = w' := by
  have c0 : w.cell? ⟨p, 0, none⟩ = some (.bool false) := h.cell 0
  clear h
  go_enter Try.func25, Try.ntmps25
  go_wp2
  go_ret
  exact ⟨rfl, rfl⟩
theorem SessAt.vq_slice {w : World} {B p m : Nat} {vq : Value} {S : SS} (h : SessAt w B p m vq S) : ∃ a c, vq = .slice a S.q.length c := by obtain ⟨qs, h1, _⟩ := h.row; exact owns_sliceN h1
theorem queue_full (h : SessAt w B p m vq ⟨true, sp, di, q, wt⟩) (hq : 1024 ≤ q.length) : Calls Try.prog 25 #[.pointer (some ⟨p, 0, none⟩), v] w fun e w' => e = .returned (.int .i64 4) ∧ w = w' := by
  have c0 : w.cell? ⟨p, 0, none⟩ = some (.bool true) := h.cell 0
  have c3 : w.cell? ⟨p, 3, none⟩ = some vq := h.cell 3
  obtain ⟨a, c, rfl⟩ := h.vq_slice
  have g : decide (1024 ≤ (q.length : Int)) = true := by rw [decide_eq_true_eq]; omega
  clear h
  go_enter Try.func25, Try.ntmps25
  go_wp2
  go_ret
  exact ⟨rfl, rfl⟩
def QPost (w : World) (B p m : Nat) (vq : Value) (S' : SS) (e : Ending) (w' : World) : Prop :=
  ∃ vq', e = .returned (.int .i64 0) ∧ SessAt w' B p m vq' S' ∧ (∀ g, vq'.ownBlock = some g → vq.ownBlock = some g ∨ w.heap.size ≤ g) ∧ Fr (fun k => k = p ∨ vq.ownBlock = some k) w w' ∧
    ∃ n qs nv, w.ownsRow B 41 1 vq n qs ∧ w'.ownsRow B 41 1 vq' (n + 1) (qs ++ [nv]) ∧ ∀ g, nv.ownBlock = some g → w.heap.size ≤ g
theorem queue_fin (hq : q.length < 1024) (hb : l.length * 16 ≤ 140737488355328) {w1 w2 : World} {a : Option Addr} {c : Nat} {nv v2 : Value} {qs : List Value} (H2 : SessAt w1 B p m (.slice a q.length c) ⟨op, sp, di, q, wt⟩) (hqs : Txts w1 qs q) (hnv : Txt w1 nv l)
    (hgrow : (w1.alloc (.cells #[nv] 41)).grownBy w2 (Value.slice a q.length c).ownBlock) (hown : w2.ownsRow B 41 1 v2 (q.length + 1) (qs ++ [nv])) :
    SessAt (w2.setCell ⟨p, 3, none⟩ v2) B p m v2 ⟨op, sp, di, q ++ [l], wt⟩ ∧ w2.cell? ⟨p, 3, none⟩ = some (.slice a q.length c) ∧ w2.frozen? ⟨p, 3, none⟩ = false ∧ Fr (fun k => k = p ∨ (Value.slice a q.length c).ownBlock = some k) w1 (w2.setCell ⟨p, 3, none⟩ v2) ∧ (w2.setCell ⟨p, 3, none⟩ v2).ownsRow B 41 1 v2 (q.length + 1) (qs ++ [nv]) := by
  have hf : Fr (fun k => (Value.slice a q.length c).ownBlock = some k) w1 w2 := (Fr.alloc _ w1 _).wide (Fr.of_grownBy hgrow) (fun i hi => .inl hi)
  have hb2 : w2.heap[p]? = some (.cells #[.bool op, .bool sp, .bool di, .slice a q.length c, .map (some m)] 99 (0, 0)) := (hf.block p H2.lt (fun e => H2.pq e)).trans H2.blk
  have hs := Fr.setCell w2 ⟨p, 3, none⟩ v2
  have hall : Fr (fun k => k = p ∨ (Value.slice a q.length c).ownBlock = some k) w1 (w2.setCell ⟨p, 3, none⟩ v2) := (hf.mono (fun _ h _ => .inr h)).wide hs (fun i hi => .inl (.inl hi))
  have hrow3 : (w2.setCell ⟨p, 3, none⟩ v2).ownsRow B 41 1 v2 (q.length + 1) (qs ++ [nv]) := by
    refine owns_fr hown hs (fun g hg e => ?_)
    obtain ⟨_, _, cs, hc⟩ := own_blk hown hg
    rw [show g = p from e, hb2] at hc
    simp only [Option.some.injEq, Obj.cells.injEq] at hc
    exact absurd hc.2.1 (by decide)
  refine ⟨⟨?_, ⟨qs ++ [nv], ?_, ?_⟩, ?_, H2.bp, H2.bm, ⟨by rw [List.length_append]; exact hq, fun x hx => (List.mem_append.1 hx).elim (H2.sq.2 x) (fun h => by rw [List.mem_singleton.1 h]; exact hb)⟩, H2.sw⟩, ?_, ?_, hall, hrow3⟩
  · have := heap_setCell_same w2 p 3 _ _ v2 hb2
    simpa using this
  · rw [List.length_append]
    exact hrow3
  · exact (hqs.snoc hnv).fr hall (fun k hk => hk.elim (fun e => by rw [e]; exact H2.ntb) (fun e => H2.ntq e))
  · exact H2.map.fr hall (fun e => e.elim (fun e => H2.pm e.symm) (fun e => H2.mq e))
  · rw [cell_of_blk hb2]; rfl
  · exact free_of_blk hb2 3
theorem SessAt.later {W w1 : World} {S : SS} (h : SessAt W B p m vq S) (hb : Below W.heap.size W w1) : SessAt w1 B p m vq S := by
  refine h.fr (Fr.of_below hb) (fun k hk => ⟨?_, ?_, ?_, ?_⟩)
  · intro e; have := h.lt; omega
  · intro e; have := h.map.lt; omega
  · intro e
    obtain ⟨qs, h1, _⟩ := h.row
    have := (own_blk h1 e).2.1
    omega
  · intro e; have := e.lt; omega
theorem clone_fin {W w1 : World} {S : SS} {nv : Value} {qs : List Value} {n : Nat} (h : SessAt W B p m vq S) (hrow : W.ownsRow B 41 1 vq n qs) (htx : Txts W qs q) (hB : B ≤ W.heap.size) (hr : w1.ownsRow W.heap.size 9 1 nv l.length (l.map .string)) (hb : Below W.heap.size W w1) :
    SessAt w1 B p m vq S ∧ w1.ownsRow B 41 1 vq n qs ∧ Txts w1 qs q ∧ w1.cell? ⟨p, 3, none⟩ = some vq ∧ Txt w1 nv l ∧ B ≤ w1.heap.size ∧ Fr (fun _ => False) W w1 ∧ p < w1.heap.size := by
  have h1 := h.later B p m vq hb
  exact ⟨h1, owns_fr hrow (Fr.of_below hb) (fun k hk e => by have := (own_blk hrow hk).2.1; omega), htx.fr (Fr.of_below hb) (fun k hk ht => by have := ht.lt; omega), h1.cell 3, Txt.of_owns hr, Nat.le_trans hB hb.size, ⟨hb.os, hb.tape, hb.output, hb.size, fun k hk _ => hb.block k hk⟩, h1.lt⟩
set_option maxRecDepth 100000 in
set_option maxHeartbeats 1000000 in
theorem queue_ok (h : SessAt w B p m vq ⟨true, sp, di, q, wt⟩) (hq : q.length < 1024) (hr : RdC w 1 v l.length (l.map .string)) (hb : l.length * 16 ≤ 140737488355328) (hB : B ≤ w.heap.size) :
    Calls Try.prog 25 #[.pointer (some ⟨p, 0, none⟩), v] w (QPost w B p m vq ⟨true, sp, di, q ++ [l], wt⟩) := by
  have c0 : w.cell? ⟨p, 0, none⟩ = some (.bool true) := h.cell 0
  have c3 : w.cell? ⟨p, 3, none⟩ = some vq := h.cell 3
  have f3 : w.frozen? ⟨p, 3, none⟩ = false := h.free 3
  obtain ⟨a, c, rfl⟩ := h.vq_slice
  have g : decide (1024 ≤ (q.length : Int)) = false := by rw [decide_eq_false_iff_not]; omega
  obtain ⟨i0, hi, hz0, hz1, hz2⟩ := info_parts infoL
  have HI := Lib.hid hi
  have HZ0 := Lib.hid hz0
  have HZ1 := Lib.hid hz1
  have HZ2 := Lib.hid hz2
  have HC := Lib.hid (fun (W : World) (hW : RdC W 1 v l.length (l.map .string)) => cloneS_any v l W hW hb)
  have HR1 := Lib.hid (hr.fr (Fr.drew (fun _ => False) w) (fun _ _ h => h))
  obtain ⟨-, av, cv, rfl, -⟩ := hr
  have H1 := Lib.hid (h.quiet (Fr.drew (fun _ => False) w))
  obtain ⟨qs, hrow, htx⟩ := H1.out.row
  have HROW := Lib.hid hrow
  have HTX := Lib.hid htx
  have hpl := h.lt
  have HBW := Lib.hid hB
  have HBB := Lib.hid hb
  clear hb h hi hz0 hz1 hz2 hrow htx hB
  go_enter Try.func25, Try.ntmps25
  go_wp2_with fail
  go_region_law (first
      | (go_simp; go_at_call 59; ((with_reducible refine (HC.out _ HR1.out).mono ?_); rintro e w1 ⟨a1, c1, rfl, hr1, hb1⟩; have HNV := Lib.hid (fun (g : Nat) (hg : (Value.slice a1 l.length c1).ownBlock = some g) => (own_blk hr1 hg).1); obtain ⟨r1, r2, r3, j3, r5, r6, r7, j4⟩ := clone_fin B p m _ q l H1.out HROW.out HTX.out HBW.out hr1 hb1; have H2 := Lib.hid r1; have HW1 := Lib.hid r2; have HT1 := Lib.hid r3; have HN := Lib.hid r5; have HBW1 := Lib.hid r6; have HF1 := Lib.hid r7; clear hr1 hb1 r1 r2 r3 r5 r6 r7; dsimp only))
      | (refine step_append_lies _ (by rfl) (.tmp 25) (.tmp 28) 40 (by rfl) B 41 i0 (.slice none 0 0) 1 24 Try.underlying40 HI.out HZ0.out HZ1.out HZ2.out rfl (by decide) (.slice a q.length c) q.length qs (by rfl) (HW1.out.alloc _) ⟨w1.heap.size, 0, none⟩ 1 1 [.slice a1 l.length c1] (by rfl) rfl (cell_one_new _ _ _) (by simp [Value.oneCell']) (by decide) (by unfold maxLen; omega) (by omega) (by have := HBW1.out; simp; omega) (w1.heap.size + 1) (by simp) ?_; intro g2 cap2 w2 hown hgrow hat hlt; obtain ⟨q1, q2, q3, q4, q5⟩ := queue_fin B p m true sp di q wt l hq HBB.out H2.out HT1.out HN.out hgrow hown; have Q1 := Lib.hid q1; have Q4 := Lib.hid q4; have Q5 := Lib.hid q5; have HAT := Lib.hid hat; clear hown hgrow hat q1 q4 q5))
  all_goals
    go_wp2
    go_ret
    refine ⟨_, rfl, Q1.out, fun g hg => ?_, ?_, ⟨q.length, qs, _, HROW.out, Q5.out, HNV.out⟩⟩
    · cases hg
      rcases HAT.out with h | h
      · exact .inl h
      · exact .inr (by rw [h]; exact Nat.le_succ_of_le HF1.out.size)
    · exact (((Fr.drew (fun _ => False) w).wide HF1.out (fun _ h => .inl h)).mono (T := fun k => k = p ∨ (Value.slice a q.length c).ownBlock = some k) (fun _ h => h.elim)).wide Q4.out (fun i hi => .inl hi)
end
end Go.Proofs.Ytpcjogmikgfgdaa
