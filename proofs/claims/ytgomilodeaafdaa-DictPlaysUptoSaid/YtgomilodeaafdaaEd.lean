/- A dict beside the document's. No condition. -/
import Derived.Test.YtgomilodeaafdaaEa
import Derived.Test.YtgomilodeaafdaaEc
import Derived.Test.YtgomilodeaafdaaCb
import Derived.Test.YtgomilodeaafdaaEb
import Derived.Laws.MakeOwn
import Derived.Laws.NewBlocks
import Derived.Test.YtgomilodeaafdaaBa
import Derived.Deep.Fields
namespace Go.Proofs.Ytgomilodeaafdaa.Di
open Go.RowKit
theorem eraseIdx_mapD {α β : Type} (f : α → β) : ∀ (l : List α) (i : Nat), (l.eraseIdx i).map f = (l.map f).eraseIdx i
  | [], i => by simp
  | x :: l, 0 => by simp
  | x :: l, i + 1 => by simp only [List.eraseIdx_cons_succ, List.map_cons]; rw [eraseIdx_mapD f l i]
/-- the kind's list, of the document's -/
def xv (_key : ByteArray) (v : Int) : Int := v
def lsP (L : Pl) : Ls := L.map fun x => (x.1, xv x.1 x.2)
theorem ls_len (L : Pl) : (lsP L).length = L.length := List.length_map _
theorem ls_fd (key : ByteArray) : ∀ L : Pl, fdG key (lsP L) = fdG key L
  | [] => rfl
  | e :: L => by
    unfold lsP
    rw [List.map_cons]
    unfold fdG
    rw [show (L.map fun x => (x.1, xv x.1 x.2)) = lsP L from rfl, ls_fd key L]
theorem ls_set (L : Pl) (key : ByteArray) (v : Int) : setG (lsP L) key (xv key v) = lsP (setG L key v) := by
  unfold setG
  rw [ls_fd]
  cases fdG key L with
  | some i => unfold lsP; rw [List.map_set]
  | none => unfold lsP; rw [List.map_append]; rfl
theorem ls_del (L : Pl) (key : ByteArray) : delG (lsP L) key = lsP (delG L key) := by
  unfold delG
  rw [ls_fd]
  cases fdG key L with
  | some i => unfold lsP; exact (eraseIdx_mapD _ _ _).symm
  | none => rfl
/-- a dict and the document's, each in its own memory -/
structure Ha (w0 w : World) (F F1 F2 : Nat → Prop) (d p : Nat) (M : DM) (A : Ls) (N : NM) (L : Pl) (X : RB) : Prop where
  s1 : ∀ k, F1 k → F k
  s2 : ∀ k, F2 k → F k
  dis : ∀ k, F1 k → ¬ F2 k
  f : DAt w d M
  like : LikeG vl M A
  fd : ∀ k, Bs (dictL d M) k → F1 k
  m : RefD w w0.heap.size p F2 N L X
  lt : ∀ k, F k → w0.heap.size ≤ k ∧ k < w.heap.size
  bel : Below w0.heap.size w0 w
  lens : Lens M 1048576
/-- both hold the same -/
def Bo (w0 w : World) (F : Nat → Prop) (d p : Nat) (L : Pl) : Prop := ∃ F1 F2 M X, Ha w0 w F F1 F2 d p M (lsP L) (nmM M) L X
theorem fp_ltD {F : Nat → Prop} {w0 w w' : World} (h : ∀ k, F k → w0.heap.size ≤ k ∧ k < w.heap.size) (hb : w0.heap.size ≤ w.heap.size) (hs : w.heap.size ≤ w'.heap.size) : ∀ k, Grew F w w' k → w0.heap.size ≤ k ∧ k < w'.heap.size := fun k hk =>
  hk.elim (fun hk => ⟨(h k hk).1, Nat.lt_of_lt_of_le (h k hk).2 hs⟩) (fun hk => ⟨Nat.le_trans hb hk.1, hk.2⟩)
section
variable {w0 w w' w2 w3 w4 : World} {F F' F1 F2 T : Nat → Prop} {d p : Nat} {M M' : DM} {A A' : Ls} {L L' : Pl} {N N' : NM} {X : RB}
theorem Ha.other (h : Ha w0 w F F1 F2 d p M A N L X) (hf : Fr T w w') (hd : ∀ k, F k → ¬ T k) (hT : ∀ k, T k → w0.heap.size ≤ k) : Ha w0 w' F F1 F2 d p M A N L X :=
  ⟨h.s1, h.s2, h.dis, h.f.fr hf (fun k hk => hd k (h.s1 k (h.fd k hk))), h.like, h.fd, h.m.other hf (fun k hk => hd k (h.s2 k hk)), fun k hk => ⟨(h.lt k hk).1, Nat.lt_of_lt_of_le (h.lt k hk).2 hf.size⟩, h.bel.trans (hf.below h.bel.size hT), h.lens⟩
theorem Ha.quiet (h : Ha w0 w F F1 F2 d p M A N L X) (hf : Fr (fun _ => False) w w') : Ha w0 w' F F1 F2 d p M A N L X := h.other hf (fun _ _ h => h) (fun _ h => h.elim)
theorem Ha.wide (h : Ha w0 w F F1 F2 d p M A N L X) (hF : ∀ k, F k → F' k) (hl : ∀ k, F' k → w0.heap.size ≤ k ∧ k < w.heap.size) : Ha w0 w F' F1 F2 d p M A N L X :=
  ⟨fun k hk => hF k (h.s1 k hk), fun k hk => hF k (h.s2 k hk), h.dis, h.f, h.like, h.fd, h.m, hl, h.bel, h.lens⟩
/-- the document's dict is turned -/
theorem Ha.rturn (h : Ha w0 w F F1 F2 d p M A N L X) (g : RdTo w w0.heap.size p F2 N' L' w') : ∃ X', Ha w0 w' (Grew F w w') F1 (Grew F2 w w') d p M A N' L' X' ∧ Fr F w w' := by
  obtain ⟨X', g1, g2⟩ := g
  have hf : Fr F w w' := g2.mono (fun i hi _ => h.s2 i hi)
  refine ⟨X', ⟨fun k hk => .inl (h.s1 k hk), fun k hk => hk.imp (h.s2 k) id, fun k hk hk2 => ?_, h.f.fr g2 (fun k hk hk2 => h.dis k (h.fd k hk) hk2), h.like, h.fd, g1, fp_ltD h.lt h.bel.size hf.size, h.bel.trans (hf.below h.bel.size (fun i hi => (h.lt i hi).1)), h.lens⟩, hf⟩
  rcases hk2 with hk2 | hk2
  · exact h.dis k hk hk2
  · have := (h.lt k (h.s1 k hk)).2; omega
/-- the dict is turned -/
theorem Ha.fturn (h : Ha w0 w F F1 F2 d p M A N L X) (g : Turn w d M w' M') (hl : LikeG vl M' A') (hs : Lens M' 1048576) : Ha w0 w' (Grew F w w') (Grew F1 w w') F2 d p M' A' N L X ∧ Fr F w w' := by
  have hf : Fr F w w' := g.fr.mono (fun i hi _ => h.s1 i (h.fd i hi))
  refine ⟨⟨fun k hk => hk.imp (h.s1 k) id, fun k hk => .inl (h.s2 k hk), fun k hk hk2 => ?_, g.at_, hl, fun k hk => (g.bs k hk).elim (fun h1 => .inl (h.fd k h1)) (fun h1 => .inr ⟨h1, g.at_.rep.lt hk⟩), h.m.other g.fr (fun k hk hk2 => h.dis k (h.fd k hk2) hk), fp_ltD h.lt h.bel.size hf.size, h.bel.trans (hf.below h.bel.size (fun i hi => (h.lt i hi).1)), hs⟩, hf⟩
  rcases hk with hk | hk
  · exact h.dis k hk hk2
  · have := (h.lt k (h.s2 k hk2)).2; omega
def BoTo (w0 w : World) (F : Nat → Prop) (d p : Nat) (L' : Pl) (w' : World) : Prop := Bo w0 w' (Grew F w w') d p L' ∧ Fr F w w'
theorem Bo.lts (h : Bo w0 w F d p L) : (∀ k, F k → w0.heap.size ≤ k ∧ k < w.heap.size) ∧ Below w0.heap.size w0 w := by
  obtain ⟨F1, F2, M, X, h⟩ := h
  exact ⟨h.lt, h.bel⟩
theorem Bo.other (h : Bo w0 w F d p L) (hf : Fr T w w') (hd : ∀ k, F k → ¬ T k) (hT : ∀ k, T k → w0.heap.size ≤ k) : Bo w0 w' F d p L := by
  obtain ⟨F1, F2, M, X, h⟩ := h
  exact ⟨F1, F2, M, X, h.other hf hd hT⟩
theorem Bo.quiet (h : Bo w0 w F d p L) (hf : Fr (fun _ => False) w w') : Bo w0 w' F d p L := h.other hf (fun _ _ h => h) (fun _ h => h.elim)
theorem Bo.wide (h : Bo w0 w F d p L) (hF : ∀ k, F k → F' k) (hl : ∀ k, F' k → w0.heap.size ≤ k ∧ k < w.heap.size) : Bo w0 w F' d p L := by
  obtain ⟨F1, F2, M, X, h⟩ := h
  exact ⟨F1, F2, M, X, h.wide hF hl⟩
theorem Bo.stay (h : Bo w0 w F d p L) (hf : Fr (fun _ => False) w w') : BoTo w0 w F d p L w' :=
  ⟨(h.quiet hf).wide (fun _ hk => .inl hk) (fp_ltD h.lts.1 h.lts.2.size hf.size), hf.mono (fun _ hk _ => hk.elim)⟩
theorem BoTo.then_ (h : BoTo w0 w F d p L w2) (hf : Fr (fun _ => False) w2 w3) : BoTo w0 w F d p L w3 :=
  ⟨(h.1.quiet hf).wide (fun k hk => hk.imp id (fun q => ⟨q.1, by have := hf.size; omega⟩)) (fun k hk => by
    have h1 := h.1.lts
    have h2 := h.2.size
    have h3 := hf.size
    rcases hk with hk | hk
    · have := h1.1 k (.inl hk); omega
    · exact ⟨by
        by_cases hw : w3.heap.size = w2.heap.size
        · exact (h1.1 k (.inr ⟨hk.1, by omega⟩)).1
        · have h4 := h1.2.size
          by_cases hk2 : k < w2.heap.size
          · exact (h1.1 k (.inr ⟨hk.1, hk2⟩)).1
          · omega, hk.2⟩), h.2.wide hf (fun _ h => h.elim)⟩
theorem BoTo.pre {w1 : World} (hl : ∀ k, F k → w0.heap.size ≤ k ∧ k < w.heap.size) (hb : w0.heap.size ≤ w.heap.size) (hq : Fr (fun _ => False) w w1) (h : BoTo w0 w1 F d p L w') : BoTo w0 w F d p L w' := by
  obtain ⟨h2, h3⟩ := h
  have hs := hq.size
  have hs2 := h3.size
  exact ⟨h2.wide (fun k hk => hk.imp id (fun q => ⟨by omega, q.2⟩)) (fp_ltD hl hb (by omega)), (hq.mono (fun _ h _ => h.elim)).trans h3 (fun _ h _ => h)⟩
/-- what the second call leaves -/
def Tw (w0 w : World) (F : Nat → Prop) (d p : Nat) (fn : Nat) (args : Array Value) (v v2 : Value) (L' : Pl) (e : Ending) (w2 : World) : Prop :=
  e = .returned v ∧ Fr F w w2 ∧ ∀ w3, Fr (fun _ => False) w2 w3 → Calls Try.prog fn args w3 fun e w4 => e = .returned v2 ∧ BoTo w0 w F d p L' w4
theorem tw_done {w3 w4 : World} (hl : ∀ k, F k → w0.heap.size ≤ k ∧ k < w.heap.size) (hb : w0.heap.size ≤ w.heap.size) {F1' F2' : Nat → Prop} (h2 : Fr F w w2) (hq : Fr (fun _ => False) w2 w3) (h : Ha w0 w4 (Grew (Grew F w w2) w3 w4) F1' F2' d p M' A' N L X) (h4 : Fr (Grew F w w2) w3 w4) (hN : N = nmM M') (hL : A' = lsP L) : BoTo w0 w F d p L w4 := by
  have hs := h2.size
  have hs2 := hq.size
  have hs3 := h4.size
  subst hN hL
  have hf : Fr F w w4 := (h2.wide hq (fun _ h => h.elim)).wide h4 (fun k hk => hk.imp id (fun q => q.1))
  refine ⟨⟨F1', F2', M', X, h.wide (fun k hk => ?_) (fp_ltD hl hb hf.size)⟩, hf⟩
  rcases hk with (hk | hk) | hk
  · exact .inl hk
  · exact .inr ⟨hk.1, by omega⟩
  · exact .inr ⟨by omega, hk.2⟩
theorem nm_olds (M : DM) : (nmM M).old.length = M.old.length ∧ (nmM M).young.length = M.young.length := ⟨List.length_map _, List.length_map _⟩
theorem key_has {key : ByteArray} (h : LikeG vl M (lsP L)) : hasK (tb M) key = (fdG key L).isSome := (h.has key).trans (by rw [ls_fd])
theorem bo_set (h : Bo w0 w F d p L) (key : ByteArray) (v : Int) (hk : key.size ≤ maxLen) (hL : L.length ≤ 1048576) : Calls Try.prog 70 #[.pointer (some ⟨p, 0, none⟩), .string key, .int .i64 v] w
    (Tw w0 w F d p 71 #[.pointer (some ⟨d, 0, none⟩), .string key, .int .i64 v] (.bool (fdG key L).isNone) (.bool (fdG key L).isNone) (setG L key v)) := by
  obtain ⟨F1, F2, M, X, h⟩ := h
  have hl := h.lt
  have hb := h.bel.size
  have hn := nm_olds M
  have l1 := h.lens.1
  have l2 := h.lens.2
  have hcn : M.n = L.length := h.like.count.trans (ls_len L)
  refine (rdSet_any w _ p F2 (nmM M) L X key v h.m hb (by omega) (by omega) (by omega) hk).mono ?_
  rintro e w2 ⟨rfl, hg⟩
  obtain ⟨X2, h2, f2⟩ := h.rturn hg
  refine ⟨rfl, f2, fun w3 hq => (set_G w3 d M (lsP L) key (xv key v) hk (h2.quiet hq).f h2.like (by rw [ls_len]; omega)).mono ?_⟩
  rintro e w4 ⟨rfl, t, b, ht, hlk⟩
  obtain ⟨h4, f4⟩ := (h2.quiet hq).fturn ht hlk (h.lens.set h.like.inv (by omega) key _ t b)
  refine ⟨by rw [ls_fd], tw_done hl hb f2 hq h4 f4 ?_ (ls_set L key v)⟩
  rw [nm_set h.like.inv, key_has h.like, hcn]
theorem bo_del (h : Bo w0 w F d p L) (key : ByteArray) (hk : key.size ≤ maxLen) (hL : L.length ≤ 1048576) : Calls Try.prog 74 #[.pointer (some ⟨p, 0, none⟩), .string key] w
    (Tw w0 w F d p 75 #[.pointer (some ⟨d, 0, none⟩), .string key] (.bool (fdG key L).isSome) (.bool (fdG key L).isSome) (delG L key)) := by
  obtain ⟨F1, F2, M, X, h⟩ := h
  have hl := h.lt
  have hb := h.bel.size
  have hn := nm_olds M
  have l1 := h.lens.1
  have l2 := h.lens.2
  have hcn : M.n = L.length := h.like.count.trans (ls_len L)
  refine (rdDel_any w _ p F2 (nmM M) L X key h.m hb (by omega) (by omega) (by omega) hk).mono ?_
  rintro e w2 ⟨rfl, hg⟩
  obtain ⟨X2, h2, f2⟩ := h.rturn hg
  refine ⟨rfl, f2, fun w3 hq => (del_G w3 d M (lsP L) key hk (h2.quiet hq).f h2.like (by rw [ls_len]; omega)).mono ?_⟩
  rintro e w4 ⟨rfl, t, ht, hlk⟩
  obtain ⟨h4, f4⟩ := (h2.quiet hq).fturn ht hlk (h.lens.del h.like.inv (by omega) key t)
  refine ⟨by rw [ls_fd], tw_done hl hb f2 hq h4 f4 ?_ (ls_del L key)⟩
  rw [nm_del h.like.inv, key_has h.like, hcn]
theorem bo_get (h : Bo w0 w F d p L) (key : ByteArray) (hk : key.size ≤ maxLen) (hL : L.length ≤ 1048576) : Calls Try.prog 72 #[.pointer (some ⟨p, 0, none⟩), .string key] w
    (Tw w0 w F d p 73 #[.pointer (some ⟨d, 0, none⟩), .string key] (.tuple #[.int .i64 (valN L key), .bool (fdG key L).isSome]) (.tuple #[valG (lsP L) key, .bool (fdG key L).isSome]) L) := by
  obtain ⟨F1, F2, M, X, h⟩ := h
  have hl := h.lt
  have hb := h.bel.size
  have hn := nm_olds M
  have l1 := h.lens.1
  have l2 := h.lens.2
  refine (rdGet_any w _ p F2 (nmM M) L X key h.m hb (by omega) (by omega) (by omega)).mono ?_
  rintro e w2 ⟨rfl, hg⟩
  obtain ⟨X2, h2, f2⟩ := h.rturn hg
  refine ⟨rfl, f2, fun w3 hq => (get_G w3 d M (lsP L) key hk (h2.quiet hq).f h2.like).mono ?_⟩
  rintro e w4 ⟨rfl, ht, hlk⟩
  obtain ⟨h4, f4⟩ := (h2.quiet hq).fturn ht hlk h.lens.step
  exact ⟨by rw [ls_fd], tw_done hl hb f2 hq h4 f4 (nm_step M).symm rfl⟩
theorem bo_clear (h : Bo w0 w F d p L) : Calls Try.prog 76 #[.pointer (some ⟨p, 0, none⟩)] w
    (Tw w0 w F d p 77 #[.pointer (some ⟨d, 0, none⟩)] (.tuple #[]) (.tuple #[]) []) := by
  obtain ⟨F1, F2, M, X, h⟩ := h
  have hl := h.lt
  have hb := h.bel.size
  refine (rdClear_any w _ p F2 (nmM M) X L h.m hb).mono ?_
  rintro e w2 ⟨rfl, hg⟩
  obtain ⟨X2, h2, f2⟩ := h.rturn hg
  refine ⟨rfl, f2, fun w3 hq => (clear_any w3 d M (h2.quiet hq).f).mono ?_⟩
  rintro e w4 ⟨rfl, ht⟩
  obtain ⟨h4, f4⟩ := (h2.quiet hq).fturn ht (A' := []) ⟨(clear_inv M).1, by rw [(clear_inv M).2]; exact List.Perm.refl _⟩ ⟨Nat.zero_le _, Nat.zero_le _⟩
  exact ⟨rfl, tw_done hl hb f2 hq h4 f4 rfl rfl⟩
theorem bo_lenM (h : Bo w0 w F d p L) : Calls Try.prog 79 #[.pointer (some ⟨p, 0, none⟩)] w fun e w' => e = .returned (.int .i64 L.length) ∧ w = w' := by
  obtain ⟨F1, F2, M, X, h⟩ := h
  have := rdLen_any w _ p F2 _ _ _ X h.m.c
  rw [List.length_map] at this
  exact this
theorem bo_len (h : Bo w0 w F d p L) (hL : L.length ≤ 1048576) : Calls Try.prog 78 #[.pointer (some ⟨d, 0, none⟩)] w fun e w' => e = .returned (.int .i64 L.length) ∧ w = w' := by
  obtain ⟨F1, F2, M, X, h⟩ := h
  exact len_G w d M (lsP L) L.length h.f h.like (by rw [ls_len]; omega) (by rw [ls_len])
theorem bo_sizes (h : Bo w0 w F d p L) : ∃ a b c : Nat, a ≤ 2097152 ∧ b ≤ 2097152 ∧ (∀ w2, Fr (fun _ => False) w w2 → Calls Try.prog 90 #[.pointer (some ⟨d, 0, none⟩)] w2 fun e w' => e = .returned (.tuple #[.int .i64 a, .int .i64 b, .int .i64 c]) ∧ ∃ m, w' = w2.drewN m) ∧
    ∀ w2, Fr (fun _ => False) w w2 → Calls Try.prog 87 #[.pointer (some ⟨p, 0, none⟩)] w2 fun e w' => e = .returned (.tuple #[.int .i64 a, .int .i64 b, .int .i64 c]) ∧ ∃ m, w' = w2.drewN m := by
  obtain ⟨F1, F2, M, X, h⟩ := h
  have l1 := h.lens.1
  have l2 := h.lens.2
  refine ⟨M.old.length, M.young.length, M.at_, by omega, by omega, fun w2 hq => sizes_any w2 d M (h.quiet hq).f, fun w2 hq => ?_⟩
  have := rdSizes_any w2 _ p F2 _ _ _ X (h.quiet hq).m.c
  rw [(nm_olds M).1, (nm_olds M).2] at this
  exact this
theorem samp_form (M : DM) (r : Nat) : ∃ k b, sampV M r = .tuple #[.string k, .bool b] := by
  unfold sampV
  split
  · exact ⟨_, _, rfl⟩
  · exact ⟨_, _, rfl⟩
theorem bo_samp (h : Bo w0 w F d p L) (hL : L.length ≤ 1048576) (r : Nat) (hr : r < 18446744073709551616) : ∃ (k : ByteArray) (b : Bool), (∀ w2, Fr (fun _ => False) w w2 → Calls Try.prog 81 #[.pointer (some ⟨d, 0, none⟩), .int .u64 (r : Int)] w2 fun e w' => e = .returned (.tuple #[.string k, .bool b]) ∧ ∃ m, w' = w2.drewN m) ∧
    ∀ w2, Fr (fun _ => False) w w2 → Calls Try.prog 80 #[.pointer (some ⟨p, 0, none⟩), .int .u64 (r : Int)] w2 fun e w' => e = .returned (.tuple #[.string k, .bool b]) ∧ Fr (fun _ => False) w2 w' := by
  obtain ⟨F1, F2, M, X, h⟩ := h
  have l1 := h.lens.1
  have l2 := h.lens.2
  have hcn : M.n = L.length := h.like.count.trans (ls_len L)
  obtain ⟨k, b, hkb⟩ := samp_form M r
  refine ⟨k, b, fun w2 hq => ?_, fun w2 hq => ?_⟩
  · rw [← hkb]
    exact sample_any w2 d M r hr (h.quiet hq).f (by omega)
  · rw [← hkb]
    exact rdSample_any w2 _ p F2 M L X (h.quiet hq).m.c h.like.inv (by omega) (by omega) (by omega) hcn.symm r hr
end
end Go.Proofs.Ytgomilodeaafdaa.Di
namespace Go.Proofs.Ytgomilodeaafdaa.Dt
open Go.RowKit
theorem eraseIdx_mapD {α β : Type} (f : α → β) : ∀ (l : List α) (i : Nat), (l.eraseIdx i).map f = (l.map f).eraseIdx i
  | [], i => by simp
  | x :: l, 0 => by simp
  | x :: l, i + 1 => by simp only [List.eraseIdx_cons_succ, List.map_cons]; rw [eraseIdx_mapD f l i]
/-- the kind's list, of the document's -/
def xv (key : ByteArray) (v : Int) : Int × ByteArray := (v, key)
def lsP (L : Pl) : Ls := L.map fun x => (x.1, xv x.1 x.2)
theorem ls_len (L : Pl) : (lsP L).length = L.length := List.length_map _
theorem ls_fd (key : ByteArray) : ∀ L : Pl, fdG key (lsP L) = fdG key L
  | [] => rfl
  | e :: L => by
    unfold lsP
    rw [List.map_cons]
    unfold fdG
    rw [show (L.map fun x => (x.1, xv x.1 x.2)) = lsP L from rfl, ls_fd key L]
theorem ls_set (L : Pl) (key : ByteArray) (v : Int) : setG (lsP L) key (xv key v) = lsP (setG L key v) := by
  unfold setG
  rw [ls_fd]
  cases fdG key L with
  | some i => unfold lsP; rw [List.map_set]
  | none => unfold lsP; rw [List.map_append]; rfl
theorem ls_del (L : Pl) (key : ByteArray) : delG (lsP L) key = lsP (delG L key) := by
  unfold delG
  rw [ls_fd]
  cases fdG key L with
  | some i => unfold lsP; exact (eraseIdx_mapD _ _ _).symm
  | none => rfl
/-- a dict and the document's, each in its own memory -/
structure Ha (w0 w : World) (F F1 F2 : Nat → Prop) (d p : Nat) (M : DM) (A : Ls) (N : NM) (L : Pl) (X : RB) : Prop where
  s1 : ∀ k, F1 k → F k
  s2 : ∀ k, F2 k → F k
  dis : ∀ k, F1 k → ¬ F2 k
  f : DAt w d M
  like : LikeG vl M A
  fd : ∀ k, Bs (dictL d M) k → F1 k
  m : RefD w w0.heap.size p F2 N L X
  lt : ∀ k, F k → w0.heap.size ≤ k ∧ k < w.heap.size
  bel : Below w0.heap.size w0 w
  lens : Lens M 1048576
/-- both hold the same -/
def Bo (w0 w : World) (F : Nat → Prop) (d p : Nat) (L : Pl) : Prop := ∃ F1 F2 M X, Ha w0 w F F1 F2 d p M (lsP L) (nmM M) L X
theorem fp_ltD {F : Nat → Prop} {w0 w w' : World} (h : ∀ k, F k → w0.heap.size ≤ k ∧ k < w.heap.size) (hb : w0.heap.size ≤ w.heap.size) (hs : w.heap.size ≤ w'.heap.size) : ∀ k, Grew F w w' k → w0.heap.size ≤ k ∧ k < w'.heap.size := fun k hk =>
  hk.elim (fun hk => ⟨(h k hk).1, Nat.lt_of_lt_of_le (h k hk).2 hs⟩) (fun hk => ⟨Nat.le_trans hb hk.1, hk.2⟩)
section
variable {w0 w w' w2 w3 w4 : World} {F F' F1 F2 T : Nat → Prop} {d p : Nat} {M M' : DM} {A A' : Ls} {L L' : Pl} {N N' : NM} {X : RB}
theorem Ha.other (h : Ha w0 w F F1 F2 d p M A N L X) (hf : Fr T w w') (hd : ∀ k, F k → ¬ T k) (hT : ∀ k, T k → w0.heap.size ≤ k) : Ha w0 w' F F1 F2 d p M A N L X :=
  ⟨h.s1, h.s2, h.dis, h.f.fr hf (fun k hk => hd k (h.s1 k (h.fd k hk))), h.like, h.fd, h.m.other hf (fun k hk => hd k (h.s2 k hk)), fun k hk => ⟨(h.lt k hk).1, Nat.lt_of_lt_of_le (h.lt k hk).2 hf.size⟩, h.bel.trans (hf.below h.bel.size hT), h.lens⟩
theorem Ha.quiet (h : Ha w0 w F F1 F2 d p M A N L X) (hf : Fr (fun _ => False) w w') : Ha w0 w' F F1 F2 d p M A N L X := h.other hf (fun _ _ h => h) (fun _ h => h.elim)
theorem Ha.wide (h : Ha w0 w F F1 F2 d p M A N L X) (hF : ∀ k, F k → F' k) (hl : ∀ k, F' k → w0.heap.size ≤ k ∧ k < w.heap.size) : Ha w0 w F' F1 F2 d p M A N L X :=
  ⟨fun k hk => hF k (h.s1 k hk), fun k hk => hF k (h.s2 k hk), h.dis, h.f, h.like, h.fd, h.m, hl, h.bel, h.lens⟩
/-- the document's dict is turned -/
theorem Ha.rturn (h : Ha w0 w F F1 F2 d p M A N L X) (g : RdTo w w0.heap.size p F2 N' L' w') : ∃ X', Ha w0 w' (Grew F w w') F1 (Grew F2 w w') d p M A N' L' X' ∧ Fr F w w' := by
  obtain ⟨X', g1, g2⟩ := g
  have hf : Fr F w w' := g2.mono (fun i hi _ => h.s2 i hi)
  refine ⟨X', ⟨fun k hk => .inl (h.s1 k hk), fun k hk => hk.imp (h.s2 k) id, fun k hk hk2 => ?_, h.f.fr g2 (fun k hk hk2 => h.dis k (h.fd k hk) hk2), h.like, h.fd, g1, fp_ltD h.lt h.bel.size hf.size, h.bel.trans (hf.below h.bel.size (fun i hi => (h.lt i hi).1)), h.lens⟩, hf⟩
  rcases hk2 with hk2 | hk2
  · exact h.dis k hk hk2
  · have := (h.lt k (h.s1 k hk)).2; omega
/-- the dict is turned -/
theorem Ha.fturn (h : Ha w0 w F F1 F2 d p M A N L X) (g : Turn w d M w' M') (hl : LikeG vl M' A') (hs : Lens M' 1048576) : Ha w0 w' (Grew F w w') (Grew F1 w w') F2 d p M' A' N L X ∧ Fr F w w' := by
  have hf : Fr F w w' := g.fr.mono (fun i hi _ => h.s1 i (h.fd i hi))
  refine ⟨⟨fun k hk => hk.imp (h.s1 k) id, fun k hk => .inl (h.s2 k hk), fun k hk hk2 => ?_, g.at_, hl, fun k hk => (g.bs k hk).elim (fun h1 => .inl (h.fd k h1)) (fun h1 => .inr ⟨h1, g.at_.rep.lt hk⟩), h.m.other g.fr (fun k hk hk2 => h.dis k (h.fd k hk2) hk), fp_ltD h.lt h.bel.size hf.size, h.bel.trans (hf.below h.bel.size (fun i hi => (h.lt i hi).1)), hs⟩, hf⟩
  rcases hk with hk | hk
  · exact h.dis k hk hk2
  · have := (h.lt k (h.s2 k hk2)).2; omega
def BoTo (w0 w : World) (F : Nat → Prop) (d p : Nat) (L' : Pl) (w' : World) : Prop := Bo w0 w' (Grew F w w') d p L' ∧ Fr F w w'
theorem Bo.lts (h : Bo w0 w F d p L) : (∀ k, F k → w0.heap.size ≤ k ∧ k < w.heap.size) ∧ Below w0.heap.size w0 w := by
  obtain ⟨F1, F2, M, X, h⟩ := h
  exact ⟨h.lt, h.bel⟩
theorem Bo.other (h : Bo w0 w F d p L) (hf : Fr T w w') (hd : ∀ k, F k → ¬ T k) (hT : ∀ k, T k → w0.heap.size ≤ k) : Bo w0 w' F d p L := by
  obtain ⟨F1, F2, M, X, h⟩ := h
  exact ⟨F1, F2, M, X, h.other hf hd hT⟩
theorem Bo.quiet (h : Bo w0 w F d p L) (hf : Fr (fun _ => False) w w') : Bo w0 w' F d p L := h.other hf (fun _ _ h => h) (fun _ h => h.elim)
theorem Bo.wide (h : Bo w0 w F d p L) (hF : ∀ k, F k → F' k) (hl : ∀ k, F' k → w0.heap.size ≤ k ∧ k < w.heap.size) : Bo w0 w F' d p L := by
  obtain ⟨F1, F2, M, X, h⟩ := h
  exact ⟨F1, F2, M, X, h.wide hF hl⟩
theorem Bo.stay (h : Bo w0 w F d p L) (hf : Fr (fun _ => False) w w') : BoTo w0 w F d p L w' :=
  ⟨(h.quiet hf).wide (fun _ hk => .inl hk) (fp_ltD h.lts.1 h.lts.2.size hf.size), hf.mono (fun _ hk _ => hk.elim)⟩
theorem BoTo.then_ (h : BoTo w0 w F d p L w2) (hf : Fr (fun _ => False) w2 w3) : BoTo w0 w F d p L w3 :=
  ⟨(h.1.quiet hf).wide (fun k hk => hk.imp id (fun q => ⟨q.1, by have := hf.size; omega⟩)) (fun k hk => by
    have h1 := h.1.lts
    have h2 := h.2.size
    have h3 := hf.size
    rcases hk with hk | hk
    · have := h1.1 k (.inl hk); omega
    · exact ⟨by
        by_cases hw : w3.heap.size = w2.heap.size
        · exact (h1.1 k (.inr ⟨hk.1, by omega⟩)).1
        · have h4 := h1.2.size
          by_cases hk2 : k < w2.heap.size
          · exact (h1.1 k (.inr ⟨hk.1, hk2⟩)).1
          · omega, hk.2⟩), h.2.wide hf (fun _ h => h.elim)⟩
theorem BoTo.pre {w1 : World} (hl : ∀ k, F k → w0.heap.size ≤ k ∧ k < w.heap.size) (hb : w0.heap.size ≤ w.heap.size) (hq : Fr (fun _ => False) w w1) (h : BoTo w0 w1 F d p L w') : BoTo w0 w F d p L w' := by
  obtain ⟨h2, h3⟩ := h
  have hs := hq.size
  have hs2 := h3.size
  exact ⟨h2.wide (fun k hk => hk.imp id (fun q => ⟨by omega, q.2⟩)) (fp_ltD hl hb (by omega)), (hq.mono (fun _ h _ => h.elim)).trans h3 (fun _ h _ => h)⟩
/-- what the second call leaves -/
def Tw (w0 w : World) (F : Nat → Prop) (d p : Nat) (fn : Nat) (args : Array Value) (v v2 : Value) (L' : Pl) (e : Ending) (w2 : World) : Prop :=
  e = .returned v ∧ Fr F w w2 ∧ ∀ w3, Fr (fun _ => False) w2 w3 → Calls Try.prog fn args w3 fun e w4 => e = .returned v2 ∧ BoTo w0 w F d p L' w4
theorem tw_done {w3 w4 : World} (hl : ∀ k, F k → w0.heap.size ≤ k ∧ k < w.heap.size) (hb : w0.heap.size ≤ w.heap.size) {F1' F2' : Nat → Prop} (h2 : Fr F w w2) (hq : Fr (fun _ => False) w2 w3) (h : Ha w0 w4 (Grew (Grew F w w2) w3 w4) F1' F2' d p M' A' N L X) (h4 : Fr (Grew F w w2) w3 w4) (hN : N = nmM M') (hL : A' = lsP L) : BoTo w0 w F d p L w4 := by
  have hs := h2.size
  have hs2 := hq.size
  have hs3 := h4.size
  subst hN hL
  have hf : Fr F w w4 := (h2.wide hq (fun _ h => h.elim)).wide h4 (fun k hk => hk.imp id (fun q => q.1))
  refine ⟨⟨F1', F2', M', X, h.wide (fun k hk => ?_) (fp_ltD hl hb hf.size)⟩, hf⟩
  rcases hk with (hk | hk) | hk
  · exact .inl hk
  · exact .inr ⟨hk.1, by omega⟩
  · exact .inr ⟨by omega, hk.2⟩
theorem nm_olds (M : DM) : (nmM M).old.length = M.old.length ∧ (nmM M).young.length = M.young.length := ⟨List.length_map _, List.length_map _⟩
theorem key_has {key : ByteArray} (h : LikeG vl M (lsP L)) : hasK (tb M) key = (fdG key L).isSome := (h.has key).trans (by rw [ls_fd])
theorem bo_set (h : Bo w0 w F d p L) (key : ByteArray) (v : Int) (hk : key.size ≤ maxLen) (hL : L.length ≤ 1048576) : Calls Try.prog 70 #[.pointer (some ⟨p, 0, none⟩), .string key, .int .i64 v] w
    (Tw w0 w F d p 82 #[.pointer (some ⟨d, 0, none⟩), .string key, .agg #[.int .i64 v, .string key]] (.bool (fdG key L).isNone) (.bool (fdG key L).isNone) (setG L key v)) := by
  obtain ⟨F1, F2, M, X, h⟩ := h
  have hl := h.lt
  have hb := h.bel.size
  have hn := nm_olds M
  have l1 := h.lens.1
  have l2 := h.lens.2
  have hcn : M.n = L.length := h.like.count.trans (ls_len L)
  refine (rdSet_any w _ p F2 (nmM M) L X key v h.m hb (by omega) (by omega) (by omega) hk).mono ?_
  rintro e w2 ⟨rfl, hg⟩
  obtain ⟨X2, h2, f2⟩ := h.rturn hg
  refine ⟨rfl, f2, fun w3 hq => (set_G w3 d M (lsP L) key (xv key v) hk (h2.quiet hq).f h2.like (by rw [ls_len]; omega)).mono ?_⟩
  rintro e w4 ⟨rfl, t, b, ht, hlk⟩
  obtain ⟨h4, f4⟩ := (h2.quiet hq).fturn ht hlk (h.lens.set h.like.inv (by omega) key _ t b)
  refine ⟨by rw [ls_fd], tw_done hl hb f2 hq h4 f4 ?_ (ls_set L key v)⟩
  rw [nm_set h.like.inv, key_has h.like, hcn]
theorem bo_del (h : Bo w0 w F d p L) (key : ByteArray) (hk : key.size ≤ maxLen) (hL : L.length ≤ 1048576) : Calls Try.prog 74 #[.pointer (some ⟨p, 0, none⟩), .string key] w
    (Tw w0 w F d p 84 #[.pointer (some ⟨d, 0, none⟩), .string key] (.bool (fdG key L).isSome) (.bool (fdG key L).isSome) (delG L key)) := by
  obtain ⟨F1, F2, M, X, h⟩ := h
  have hl := h.lt
  have hb := h.bel.size
  have hn := nm_olds M
  have l1 := h.lens.1
  have l2 := h.lens.2
  have hcn : M.n = L.length := h.like.count.trans (ls_len L)
  refine (rdDel_any w _ p F2 (nmM M) L X key h.m hb (by omega) (by omega) (by omega) hk).mono ?_
  rintro e w2 ⟨rfl, hg⟩
  obtain ⟨X2, h2, f2⟩ := h.rturn hg
  refine ⟨rfl, f2, fun w3 hq => (del_G w3 d M (lsP L) key hk (h2.quiet hq).f h2.like (by rw [ls_len]; omega)).mono ?_⟩
  rintro e w4 ⟨rfl, t, ht, hlk⟩
  obtain ⟨h4, f4⟩ := (h2.quiet hq).fturn ht hlk (h.lens.del h.like.inv (by omega) key t)
  refine ⟨by rw [ls_fd], tw_done hl hb f2 hq h4 f4 ?_ (ls_del L key)⟩
  rw [nm_del h.like.inv, key_has h.like, hcn]
theorem bo_get (h : Bo w0 w F d p L) (key : ByteArray) (hk : key.size ≤ maxLen) (hL : L.length ≤ 1048576) : Calls Try.prog 72 #[.pointer (some ⟨p, 0, none⟩), .string key] w
    (Tw w0 w F d p 83 #[.pointer (some ⟨d, 0, none⟩), .string key] (.tuple #[.int .i64 (valN L key), .bool (fdG key L).isSome]) (.tuple #[valG (lsP L) key, .bool (fdG key L).isSome]) L) := by
  obtain ⟨F1, F2, M, X, h⟩ := h
  have hl := h.lt
  have hb := h.bel.size
  have hn := nm_olds M
  have l1 := h.lens.1
  have l2 := h.lens.2
  refine (rdGet_any w _ p F2 (nmM M) L X key h.m hb (by omega) (by omega) (by omega)).mono ?_
  rintro e w2 ⟨rfl, hg⟩
  obtain ⟨X2, h2, f2⟩ := h.rturn hg
  refine ⟨rfl, f2, fun w3 hq => (get_G w3 d M (lsP L) key hk (h2.quiet hq).f h2.like).mono ?_⟩
  rintro e w4 ⟨rfl, ht, hlk⟩
  obtain ⟨h4, f4⟩ := (h2.quiet hq).fturn ht hlk h.lens.step
  exact ⟨by rw [ls_fd], tw_done hl hb f2 hq h4 f4 (nm_step M).symm rfl⟩
theorem bo_clear (h : Bo w0 w F d p L) : Calls Try.prog 76 #[.pointer (some ⟨p, 0, none⟩)] w
    (Tw w0 w F d p 85 #[.pointer (some ⟨d, 0, none⟩)] (.tuple #[]) (.tuple #[]) []) := by
  obtain ⟨F1, F2, M, X, h⟩ := h
  have hl := h.lt
  have hb := h.bel.size
  refine (rdClear_any w _ p F2 (nmM M) X L h.m hb).mono ?_
  rintro e w2 ⟨rfl, hg⟩
  obtain ⟨X2, h2, f2⟩ := h.rturn hg
  refine ⟨rfl, f2, fun w3 hq => (clear_any w3 d M (h2.quiet hq).f).mono ?_⟩
  rintro e w4 ⟨rfl, ht⟩
  obtain ⟨h4, f4⟩ := (h2.quiet hq).fturn ht (A' := []) ⟨(clear_inv M).1, by rw [(clear_inv M).2]; exact List.Perm.refl _⟩ ⟨Nat.zero_le _, Nat.zero_le _⟩
  exact ⟨rfl, tw_done hl hb f2 hq h4 f4 rfl rfl⟩
theorem bo_lenM (h : Bo w0 w F d p L) : Calls Try.prog 79 #[.pointer (some ⟨p, 0, none⟩)] w fun e w' => e = .returned (.int .i64 L.length) ∧ w = w' := by
  obtain ⟨F1, F2, M, X, h⟩ := h
  have := rdLen_any w _ p F2 _ _ _ X h.m.c
  rw [List.length_map] at this
  exact this
theorem bo_len (h : Bo w0 w F d p L) (hL : L.length ≤ 1048576) : Calls Try.prog 89 #[.pointer (some ⟨d, 0, none⟩)] w fun e w' => e = .returned (.int .i64 L.length) ∧ w = w' := by
  obtain ⟨F1, F2, M, X, h⟩ := h
  exact len_G w d M (lsP L) L.length h.f h.like (by rw [ls_len]; omega) (by rw [ls_len])
theorem bo_sizes (h : Bo w0 w F d p L) : ∃ a b c : Nat, a ≤ 2097152 ∧ b ≤ 2097152 ∧ (∀ w2, Fr (fun _ => False) w w2 → Calls Try.prog 86 #[.pointer (some ⟨d, 0, none⟩)] w2 fun e w' => e = .returned (.tuple #[.int .i64 a, .int .i64 b, .int .i64 c]) ∧ ∃ m, w' = w2.drewN m) ∧
    ∀ w2, Fr (fun _ => False) w w2 → Calls Try.prog 87 #[.pointer (some ⟨p, 0, none⟩)] w2 fun e w' => e = .returned (.tuple #[.int .i64 a, .int .i64 b, .int .i64 c]) ∧ ∃ m, w' = w2.drewN m := by
  obtain ⟨F1, F2, M, X, h⟩ := h
  have l1 := h.lens.1
  have l2 := h.lens.2
  refine ⟨M.old.length, M.young.length, M.at_, by omega, by omega, fun w2 hq => sizes_any w2 d M (h.quiet hq).f, fun w2 hq => ?_⟩
  have := rdSizes_any w2 _ p F2 _ _ _ X (h.quiet hq).m.c
  rw [(nm_olds M).1, (nm_olds M).2] at this
  exact this
theorem samp_form (M : DM) (r : Nat) : ∃ k b, sampV M r = .tuple #[.string k, .bool b] := by
  unfold sampV
  split
  · exact ⟨_, _, rfl⟩
  · exact ⟨_, _, rfl⟩
theorem bo_samp (h : Bo w0 w F d p L) (hL : L.length ≤ 1048576) (r : Nat) (hr : r < 18446744073709551616) : ∃ (k : ByteArray) (b : Bool), (∀ w2, Fr (fun _ => False) w w2 → Calls Try.prog 88 #[.pointer (some ⟨d, 0, none⟩), .int .u64 (r : Int)] w2 fun e w' => e = .returned (.tuple #[.string k, .bool b]) ∧ ∃ m, w' = w2.drewN m) ∧
    ∀ w2, Fr (fun _ => False) w w2 → Calls Try.prog 80 #[.pointer (some ⟨p, 0, none⟩), .int .u64 (r : Int)] w2 fun e w' => e = .returned (.tuple #[.string k, .bool b]) ∧ Fr (fun _ => False) w2 w' := by
  obtain ⟨F1, F2, M, X, h⟩ := h
  have l1 := h.lens.1
  have l2 := h.lens.2
  have hcn : M.n = L.length := h.like.count.trans (ls_len L)
  obtain ⟨k, b, hkb⟩ := samp_form M r
  refine ⟨k, b, fun w2 hq => ?_, fun w2 hq => ?_⟩
  · rw [← hkb]
    exact sample_any w2 d M r hr (h.quiet hq).f (by omega)
  · rw [← hkb]
    exact rdSample_any w2 _ p F2 M L X (h.quiet hq).m.c h.like.inv (by omega) (by omega) (by omega) hcn.symm r hr
end
end Go.Proofs.Ytgomilodeaafdaa.Dt
namespace Go.Proofs.Ytgomilodeaafdaa
open Go.RowKit
theorem Di.bo_bucket {w0 w : World} {F : Nat → Prop} {d p : Nat} {L : Pl} (h : Di.Bo w0 w F d p L) (hL : L.length ≤ 1048576) (t i : Int) : ∃ l : List ByteArray, l.length ≤ 1048576 ∧ (∀ w2, Fr (fun _ => False) w w2 → Calls Try.prog 92 #[.pointer (some ⟨d, 0, none⟩), .int .i64 t, .int .i64 i] w2 (SomeTexts w2 l)) ∧
    ∀ w2, Fr (fun _ => False) w w2 → Calls Try.prog 148 #[.pointer (some ⟨p, 0, none⟩), .int .i64 t, .int .i64 i] w2 (HasL w2 l) := by
  obtain ⟨F1, F2, M, X, h⟩ := h
  have hcn : M.n = L.length := h.like.count.trans (Di.ls_len L)
  refine ⟨bucketK M t i, ?_, fun w2 hq => Di.bucket_any w2 d M t i (h.quiet hq).f (by omega), fun w2 hq => rdBucket_any w2 _ p F2 _ _ X M (h.quiet hq).m.c t i⟩
  exact Nat.le_trans (bucketK_len h.like.inv t i) (by omega)
theorem Di.bo_no {w0 w : World} {F : Nat → Prop} {d p : Nat} {L : Pl} (h : Di.Bo w0 w F d p L) (hL : L.length ≤ 1048576) (t i : Int) (ht : t ≠ 0 ∧ t ≠ 1) : ∀ w2, Fr (fun _ => False) w w2 → Calls Try.prog 92 #[.pointer (some ⟨d, 0, none⟩), .int .i64 t, .int .i64 i] w2 (SomeTexts w2 []) := by
  obtain ⟨F1, F2, M, X, h⟩ := h
  have hcn : M.n = L.length := h.like.count.trans (Di.ls_len L)
  intro w2 hq
  have h1 := Di.bucket_any w2 d M t i (h.quiet hq).f (by omega)
  have e : bucketK M t i = [] := by unfold bucketK; rw [if_neg (by omega)]
  rw [e] at h1
  exact h1
theorem below_fr {w w' : World} (h : Below w.heap.size w w') : Fr (fun _ => False) w w' := (Fr.of_below h).mono fun _ hi hk => absurd hk (by omega)
theorem own_ltD {w : World} {B : Nat} {e : TypeId} {sz : Nat} {v : Value} {n : Nat} {xs : List Value} (h : w.ownsRow B e sz v n xs) : ∀ g, v.ownBlock = some g → B ≤ g ∧ g < w.heap.size := by
  intro g hg
  rcases h.2 with ⟨rfl, rfl⟩ | ⟨g', cap, cur, rfl, hb, hgg, _⟩
  · cases hg
  · cases hg
    exact ⟨hb, (Array.getElem?_eq_some_iff.1 hgg).1⟩
theorem sameD_self (w : World) (v1 v2 : Value) (l : List ByteArray) (h1 : RdC w 1 v1 l.length (l.map .string)) (h2 : RdC w 1 v2 l.length (l.map .string)) :
    Calls Try.prog 149 #[v1, v2] w fun e w' => e = .returned (.bool true) ∧ Fr (fun _ => False) w w' :=
  (sameD_any w v1 v2 l l h1 h2).mono fun e w' ⟨h1, m, h2⟩ => ⟨by rw [h1, decide_eq_true rfl], by rw [h2]; exact Fr.drewN (fun _ => False) w m⟩
set_option maxRecDepth 100000 in
set_option maxHeartbeats 2000000 in
theorem bucketD_any (w0 w : World) (F : Nat → Prop) (d p : Nat) (L : Pl) (h : Di.Bo w0 w F d p L) (hL : L.length ≤ 1048576) (t i : Int) :
    Calls Try.prog 91 #[.pointer (some ⟨d, 0, none⟩), .pointer (some ⟨p, 0, none⟩), .int .i64 t, .int .i64 i] w fun e w' => e = .returned (.bool true) ∧ Fr (fun _ => False) w w' := by
  obtain ⟨l, hll, hb1, hb2⟩ := Di.bo_bucket h hL t i
  have HB1 := Lib.hid hb1
  have HB2 := Lib.hid (hb2 w (Fr.refl _ _))
  clear h hb1 hb2
  go_enter Try.func91, Try.ntmps91
  go_wp2_with fail
  refine HB2.out.mono ?_
  rintro e w1 ⟨vw, rfl, hrw, m1, hm1⟩
  have HQ1 : Hid (Fr (fun _ => False) w w1) := (by rw [hm1]; exact Fr.drewN (fun _ => False) w m1)
  have HRW := Lib.hid hrw
  clear hrw hm1
  go_wp2_with fail
  refine (HB1.out _ HQ1.out).mono ?_
  rintro e w2 ⟨vx, rfl, hox, hbx⟩
  have HQ2 := Lib.hid (below_fr hbx)
  have HOX := Lib.hid hox
  have HOX2 := Lib.hid hox
  clear hox hbx
  go_wp2_with fail
  refine (HB1.out _ (HQ1.out.wide HQ2.out (fun _ h => h.elim))).mono ?_
  rintro e w3 ⟨vy, rfl, hoy, hby⟩
  have HQ3 := Lib.hid (below_fr hby)
  have HOY := Lib.hid hoy
  have HRW3 : Hid (RdC w3 1 vw l.length (l.map .string)) := (HRW.out.fr HQ2.out (fun _ _ h => h)).fr HQ3.out (fun _ _ h => h)
  have HOX3 : Hid (w3.ownsRow w1.heap.size 9 1 vx l.length (l.map .string)) := ow_fr HOX.out HQ3.out (fun _ _ h => h)
  clear hoy hby
  go_wp2_with fail
  refine (sameD_self _ vx vw l (RdC.of_owns HOX3.out) HRW3.out).mono ?_
  rintro e w4 ⟨rfl, hq4⟩
  have HQ4 := Lib.hid hq4
  clear hq4
  go_wp2_with fail
  refine (sameD_self _ vy vw l ((RdC.of_owns HOY.out).fr HQ4.out (fun _ _ h => h)) (HRW3.out.fr HQ4.out (fun _ _ h => h))).mono ?_
  rintro e w5 ⟨rfl, hq5⟩
  have HQ5 := Lib.hid hq5
  clear hq5
  have HQ35 : Hid (Fr (fun _ => False) w3 w5) := HQ4.out.wide HQ5.out (fun _ h => h.elim)
  have HS13 : Hid (w1.heap.size ≤ w3.heap.size) := Nat.le_trans HQ2.out.size HQ3.out.size
  go_wp2_with fail
  refine (spoilD_any _ w1.heap.size vx l.length ⟨_, ow_fr HOX3.out HQ35.out (fun _ _ h => h)⟩ (by omega) (Nat.le_trans HS13.out HQ35.out.size)).mono ?_
  rintro e w6 ⟨⟨u6, rfl⟩, hf6, -⟩
  have HF6 := Lib.hid hf6
  clear hf6
  have hap : ∀ g, vx.ownBlock = some g → w1.heap.size ≤ g ∧ g < w2.heap.size := own_ltD HOX2.out
  have hvy : ∀ g, vy.ownBlock = some g → w2.heap.size ≤ g := fun g hg => (own_ltD HOY.out g hg).1
  have HRY : Hid (RdC w6 1 vy l.length (l.map .string)) := RdC.of_owns (ow_fr (ow_fr HOY.out HQ35.out (fun _ _ h => h)) HF6.out (fun g hg hg2 => by have h1 := (hap g hg2).2; have h2 := hvy g hg; omega))
  have HF16 : Hid (Fr (fun _ => False) w1 w6) := ((HQ2.out.wide HQ3.out (fun _ h => h.elim)).wide HQ35.out (fun _ h => h.elim)).wide HF6.out (fun g hg => .inr (hap g hg).1)
  have HRW6 : Hid (RdC w6 1 vw l.length (l.map .string)) := HRW.out.below (HF16.out.below (Nat.le_refl _) (fun _ h => h.elim))
  have HF06 : Hid (Fr (fun _ => False) w w6) := HQ1.out.wide HF16.out (fun _ h => h.elim)
  clear hap hvy
  go_wp2_with fail
  refine (sameD_self _ vy vw l HRY.out HRW6.out).mono ?_
  rintro e w7 ⟨rfl, hq7⟩
  have HQ7 := Lib.hid hq7
  clear hq7
  go_wp2_with fail
  go_ret
  exact ⟨rfl, HF06.out.wide HQ7.out (fun _ h => h.elim)⟩
end Go.Proofs.Ytgomilodeaafdaa
namespace Go.Proofs.Ytgomilodeaafdaa
open Go.RowKit
set_option maxRecDepth 100000 in
set_option maxHeartbeats 2000000 in
theorem liesD_any (w0 w : World) (F : Nat → Prop) (d p : Nat) (L : Pl) (h : Di.Bo w0 w F d p L) (hL : L.length ≤ 1048576) :
    Calls Try.prog 20 #[.pointer (some ⟨d, 0, none⟩), .pointer (some ⟨p, 0, none⟩)] w fun e w' => e = .returned (.bool true) ∧ Fr (fun _ => False) w w' := by
  obtain ⟨a, b, c, ha, hb, hs1, hs2⟩ := Di.bo_sizes h
  have HS1 := Lib.hid (hs1 w (Fr.refl _ _))
  have HS2 := Lib.hid hs2
  have HB : Hid (∀ w2, Fr (fun _ => False) w w2 → ∀ t i : Int, Calls Try.prog 91 #[.pointer (some ⟨d, 0, none⟩), .pointer (some ⟨p, 0, none⟩), .int .i64 t, .int .i64 i] w2 fun e w' => e = .returned (.bool true) ∧ Fr (fun _ => False) w2 w') := fun w2 hq t i => bucketD_any w0 w2 F d p L (h.quiet hq) hL t i
  have HN1 := Lib.hid (Di.bo_no h hL 2 0 (by decide))
  have HN2 := Lib.hid (Di.bo_no h hL (-1) 0 (by decide))
  clear h hs1 hs2
  go_enter Try.func20, Try.ntmps20
  go_wp2_with fail
  refine HS1.out.mono ?_
  rintro e w1 ⟨rfl, m1, hm1⟩
  have HQ1 : Hid (Fr (fun _ => False) w w1) := (by rw [hm1]; exact Fr.drewN (fun _ => False) w m1)
  clear hm1
  go_wp2_with fail
  refine (HS2.out _ HQ1.out).mono ?_
  rintro e w2 ⟨rfl, m2, hm2⟩
  have HQ2 : Hid (Fr (fun _ => False) w w2) := HQ1.out.wide (T := fun _ => False) (by rw [hm2]; exact Fr.drewN (fun _ => False) w1 m2) (fun _ h => h.elim)
  clear hm2
  go_wp2_with fail
  go_loopw [11] (fun i wr => ∃ k : Nat, i = .int .i64 ((k : Int) - 1) ∧ k ≤ a + 2 ∧ Hid (Fr (fun _ => False) w wr)) (fun i _ => a + 2 - (intOf i + 1).toNat)
  case atStart => exact ⟨0, rfl, by omega, HQ2.out⟩
  case round =>
    obtain ⟨k, rfl, hk, HW⟩ := hrel
    obtain ⟨wo, rfl⟩ : ∃ wo, wo = wr := ⟨_, rfl⟩
    by_cases hlt : k ≤ a + 1
    · have g1 : decide ((k : Int) - 1 ≤ (a : Int)) = true := decide_eq_true (by omega)
      have g2 : (k : Int) - 1 ≤ (a : Int) := by omega
      go_wp2_with fail
      refine (HB.out _ HW.out 0 ((k : Int) - 1)).mono ?_
      rintro e w3 ⟨rfl, hq3⟩
      have HQ3 := Lib.hid (HW.out.wide hq3 (fun _ h => h.elim))
      clear hq3
      go_wp2_with fail
      go_roundw
      case rel => exact ⟨k + 1, by go_num, by omega, HQ3.out⟩
      case measure => simp [intOf]; omega
    · have g1 : decide ((k : Int) - 1 ≤ (a : Int)) = false := decide_eq_false (by omega)
      have g2 : ¬ (k : Int) - 1 ≤ (a : Int) := by omega
      go_wp2_with fail
      go_loopw [12] (fun i wr => ∃ k : Nat, i = .int .i64 ((k : Int) - 1) ∧ k ≤ b + 2 ∧ Hid (Fr (fun _ => False) w wr)) (fun i _ => b + 2 - (intOf i + 1).toNat)
      case atStart => exact ⟨0, rfl, by omega, HW.out⟩
      case round =>
        obtain ⟨k2, rfl, hk2, HW2⟩ := hrel
        obtain ⟨wq, rfl⟩ : ∃ wo, wo = wr := ⟨_, rfl⟩
        by_cases hlt2 : k2 ≤ b + 1
        · have g3 : decide ((k2 : Int) - 1 ≤ (b : Int)) = true := decide_eq_true (by omega)
          have g4 : (k2 : Int) - 1 ≤ (b : Int) := by omega
          go_wp2_with fail
          refine (HB.out _ HW2.out 1 ((k2 : Int) - 1)).mono ?_
          rintro e w3 ⟨rfl, hq3⟩
          have HQ3 := Lib.hid (HW2.out.wide hq3 (fun _ h => h.elim))
          clear hq3
          go_wp2_with fail
          go_roundw
          case rel => exact ⟨k2 + 1, by go_num, by omega, HQ3.out⟩
          case measure => simp [intOf]; omega
        · have g3 : decide ((k2 : Int) - 1 ≤ (b : Int)) = false := decide_eq_false (by omega)
          have g4 : ¬ (k2 : Int) - 1 ≤ (b : Int) := by omega
          go_wp2_with fail
          refine (HN1.out _ HW2.out).mono ?_
          rintro e w3 ⟨v3, rfl, ho3, hb3⟩
          obtain ⟨a3, c3, rfl⟩ := ow_sliceN ho3
          have HQ3 := Lib.hid (HW2.out.wide (below_fr hb3) (fun _ h => h.elim))
          clear ho3 hb3
          go_wp2_with fail
          refine (HN2.out _ HQ3.out).mono ?_
          rintro e w4 ⟨v4, rfl, ho4, hb4⟩
          obtain ⟨a4, c4, rfl⟩ := ow_sliceN ho4
          have HQ4 := Lib.hid (HQ3.out.wide (below_fr hb4) (fun _ h => h.elim))
          clear ho4 hb4
          go_wp2_with fail
          go_ret
          exact ⟨rfl, HQ4.out⟩
end Go.Proofs.Ytgomilodeaafdaa
namespace Go.Proofs.Ytgomilodeaafdaa
open Go.RowKit Go.Shelf
attribute [local go_sem] Oper.semAt_some
theorem eachD_val {M : DM} {L : Pl} (h : LikeG Di.vl M (Di.lsP L)) : ∀ e ∈ (opn M).flatten, e.val = [.int .i64 (valN L e.key)] ∧ (fdG e.key L).isSome = true := by
  intro e he
  rw [opn_flatten h.inv] at he
  have h1 : pairOf e ∈ tb M := List.mem_map.2 ⟨e, he, rfl⟩
  obtain ⟨x, hxm, hx⟩ := List.mem_map.1 (h.perm.mem_iff.1 h1)
  obtain ⟨i, hi⟩ := List.mem_iff_getElem?.1 hxm
  have hf := fdG_nodup h.nodup (show (Di.lsP L)[i]? = some (x.1, x.2) from hi)
  rw [Di.ls_fd] at hf
  have hk : x.1 = e.key := congrArg Prod.fst hx
  have hv : [Value.int .i64 x.2] = e.val := congrArg Prod.snd hx
  unfold Di.lsP at hi
  rw [List.getElem?_map] at hi
  obtain ⟨y, hy, hy2⟩ := Option.map_eq_some_iff.1 hi
  rw [hk] at hf
  refine ⟨?_, by rw [hf]; rfl⟩
  unfold valN
  rw [hf]
  dsimp only
  rw [hy, ← hv, ← hy2]
  rfl
/-- what stands while the keys come -/
structure Td (w : World) (B z : Nat) (n : Int) (v1 v2 : Value) (N : Nat) (K : List ByteArray) (xs : List Value) (r : Bool) (i : Int) (V : World) : Prop where
  b5 : Boxed V B 3 (.int .i64 n)
  b6 : Boxed V (B + 1) 4 (.bool r)
  b7 : Boxed V z 39 v1
  b8 : Boxed V (z + 1) 106 v2
  b9 : Boxed V (z + 1 + 1) 3 (.int .i64 i)
  ks : V.ownsRow B 9 1 v1 N (K.map .string)
  vs : V.ownsRow B 3 1 v2 N xs
  k1 : ∀ g, v1.ownBlock = some g → g < z
  k2 : ∀ g, v2.ownBlock = some g → B + 1 < g ∧ g < z
  fr : Fr (fun _ => False) w V
section
variable {w A B' : World} {B z : Nat} {n : Int} {v1 v2 : Value} {N : Nat} {K : List ByteArray} {xs : List Value} {r : Bool} {i : Int}
theorem Td.turn (h : Td w B z n v1 v2 N K xs r i A) (hw : w.heap.size ≤ B) {row : Option Nat} (hg : A.grownBy B' row) (hr : ∀ r, row = some r → w.heap.size ≤ r ∧ ∃ o : Obj, A.heap[r]? = some o ∧ o.isCells = false) : Td w B z n v1 v2 N K xs r i B' := by
  have hne : ∀ k cs t m, A.heap[k]? = some (.cells cs t m) → some k ≠ row := by
    intro k cs t m hk e
    obtain ⟨_, o, ho, hc⟩ := hr k e.symm
    rw [hk] at ho
    cases ho
    cases hc
  refine ⟨h.b5.kept hg (hne _ _ _ _ h.b5), h.b6.kept hg (hne _ _ _ _ h.b6), h.b7.kept hg (hne _ _ _ _ h.b7), h.b8.kept hg (hne _ _ _ _ h.b8), h.b9.kept hg (hne _ _ _ _ h.b9), ?_, ?_, h.k1, h.k2, h.fr.wide (Fr.of_grownBy hg) (fun i hi => .inr (hr i hi).1)⟩
  · exact Di.own_same h.ks fun g hgv => by
      obtain ⟨_, hl, cs, hc⟩ := Di.own_blk h.ks hgv
      exact hg.block g hl (hne g _ _ _ hc)
  · exact Di.own_same h.vs fun g hgv => by
      obtain ⟨_, hl, cs, hc⟩ := Di.own_blk h.vs hgv
      exact hg.block g hl (hne g _ _ _ hc)
/-- the count goes on -/
theorem Td.next (h : Td w B z n v1 v2 N K xs r i A) (hw : w.heap.size ≤ B) (hz : B + 1 < z) (i' : Int) : Td w B z n v1 v2 N K xs r i' (A.setCell ⟨z + 1 + 1, 0, none⟩ (.int .i64 i')) ∧ Fr (fun k => k = z + 1 + 1) A (A.setCell ⟨z + 1 + 1, 0, none⟩ (.int .i64 i')) := by
  have hf := Fr.setCell A ⟨z + 1 + 1, 0, none⟩ (.int .i64 i')
  refine ⟨⟨(hf.block _ h.b5.lt (by dsimp only; omega)).trans h.b5, (hf.block _ h.b6.lt (by dsimp only; omega)).trans h.b6, (hf.block _ h.b7.lt (by dsimp only; omega)).trans h.b7, (hf.block _ h.b8.lt (by dsimp only; omega)).trans h.b8, h.b9.set _, ?_, ?_, h.k1, h.k2, h.fr.wide hf (fun i hi => .inr (by dsimp only at hi; omega))⟩, hf⟩
  · exact ow_fr h.ks hf (fun g hg e => by have := h.k1 g hg; dsimp only at e; omega)
  · exact ow_fr h.vs hf (fun g hg e => by have := (h.k2 g hg).2; dsimp only at e; omega)
/-- the answer is laid down -/
theorem Td.tell (h : Td w B z n v1 v2 N K xs r i A) (hw : w.heap.size ≤ B) (r' : Bool) : Boxed (A.setCell ⟨B + 1, 0, none⟩ (.bool r')) (B + 1) 4 (.bool r') ∧ Fr (fun k => k = B + 1) A (A.setCell ⟨B + 1, 0, none⟩ (.bool r')) ∧ Fr (fun _ => False) w (A.setCell ⟨B + 1, 0, none⟩ (.bool r')) := by
  have hf := Fr.setCell A ⟨B + 1, 0, none⟩ (.bool r')
  exact ⟨h.b6.set _, hf, h.fr.wide hf (fun i hi => .inr (by dsimp only at hi; omega))⟩
end
theorem others_of {A C : World} {T : Nat → Prop} (hf : Fr T A C) (hT : ∀ k, T k → ∃ t v, Boxed A k t v) : KeepsOthers A C := by
  refine ⟨hf.size, fun k o hk hc => (hf.block k (Array.getElem?_eq_some_iff.1 hk).1 (fun hw => ?_)).trans hk⟩
  obtain ⟨t, v, hb⟩ := hT k hw
  have hb' : A.heap[k]? = some (.cells #[v] t (0, 0)) := hb
  rw [hk] at hb'
  cases hb'
  cases hc
theorem eachK_of {A C : World} {T : Nat → Prop} {n0 : Nat} (hf : Fr T A C) (ho : KeepsOthers A C) (hT : ∀ k, T k → k < n0) : Di.EachK n0 A C :=
  ⟨Keep.of_fr hf fun k cs t m hs hk hw => by have := hs.1; have := hT k hw; omega, Late.of_others _ ho⟩
set_option maxRecDepth 100000 in
set_option maxHeartbeats 4000000 in
theorem toldD_any (w0 w : World) (F : Nat → Prop) (d p : Nat) (L : Pl) (h : Di.Bo w0 w F d p L) (hL : L.length ≤ 1048576) (n : Int) :
    Calls Try.prog 21 #[.pointer (some ⟨d, 0, none⟩), .pointer (some ⟨p, 0, none⟩), .int .i64 n] w fun e w' => e = .returned (.bool true) ∧ Fr (fun _ => False) w w' := by
  refine (callsIn_wide (n := 8)).1 ?_
  obtain ⟨F1, F2, M, X, h⟩ := h
  have hcn : M.n = L.length := h.like.count.trans (Di.ls_len L)
  have l1 := h.lens.1
  have l2 := h.lens.2
  have hev := eachD_val h.like
  have hmem : ∀ k ∈ eachK M, (fdG k L).isSome = true := fun k hk => by
    obtain ⟨e, he, rfl⟩ := List.mem_map.1 hk
    exact (hev e he).2
  have HE : Hid (∀ w2, Fr (fun _ => False) w w2 → Calls Try.prog 93 #[.pointer (some ⟨p, 0, none⟩)] w2 (EachPost w2 M L)) := fun w2 hq => rdEach_any w2 _ p F2 M L X (h.quiet hq).m h.like.inv (by omega) (by omega) (by omega) hcn.symm hmem
  have HD := Lib.hid h.f
  have HEV := Lib.hid hev
  have hfl : (opn M).flatten.length = L.length := by
    have h1 := h.like.perm.length_eq
    rw [List.length_map, Di.ls_len] at h1
    rw [opn_flatten h.like.inv, ← h1]
    unfold tb
    rw [List.length_map]
  have HFL : Hid ((opn M).flatten.length ≤ 1048576) := by show _ ≤ _; omega
  have HMN : Hid (M.n ≤ 1048576) := by show _ ≤ _; omega
  have HKL : Hid ((eachK M).length = (opn M).flatten.length) := by show _ = _; unfold eachK; rw [List.length_map]
  obtain ⟨B, hB⟩ : ∃ B, w.heap.size = B := ⟨_, rfl⟩
  have HB := Lib.hid hB
  clear h hev hmem hcn l1 l2 hL hfl
  refine callsIn_of_wp_marks Try.func21 rfl trivial ?_ rfl
  simp only [Try.ntmps21, List.size_toArray, List.length_cons, List.length_nil, Nat.reduceAdd, Nat.reduceSub, Array.replicate_succ, Array.replicate_zero, List.push_toArray, List.append_toArray, List.nil_append, List.cons_append]
  gi_wp2_with fail
  refine ⟨trivial, (callsIn_wide.2 (HE.out _ ((Fr.alloc (fun _ => False) w _).thenAlloc _))).mono ?_⟩
  rintro e w2 ⟨v1, v2, rfl, hk, hv, hf⟩
  obtain ⟨N, hN⟩ : ∃ N, (eachK M).length = N := ⟨_, rfl⟩
  unfold RowS at hk
  rw [hN] at hk hv
  have HKN := Lib.hid hN
  obtain ⟨a1, c1, rfl⟩ := ow_sliceN hk
  obtain ⟨a2, c2, rfl⟩ := ow_sliceN hv
  have HK := Lib.hid hk
  have HV := Lib.hid hv
  have HF := Lib.hid hf
  clear hk hv hf hN
  gi_wp2_with fail
  refine ⟨trivial, (Di.each_in _ 7 trivial rfl _ _).mono ?_⟩
  rintro e w' ⟨rfl, rfl⟩
  gi_wp2_with fail
  obtain ⟨Wl, hWl⟩ : ∃ Wl, (((w2.alloc (.cells #[.slice a1 N c1] 39)).alloc (.cells #[.slice a2 N c2] 106)).alloc (.cells #[.int .i64 0] 3)).alloc (.cells #[.pointer (some ⟨d, 0, none⟩)] 24) = Wl := ⟨_, rfl⟩
  have hs12 : B + 2 ≤ w2.heap.size := by have := HF.out.size; simp only [World.size_alloc] at this; have := HB.out; omega
  have HQ2 : Hid (Fr (fun _ => False) w w2) := ((Fr.alloc (fun _ => False) w _).thenAlloc _).wide HF.out (fun _ h => h.elim)
  have hS0 : Td w B w2.heap.size n (.slice a1 N c1) (.slice a2 N c2) N (eachK M) ((eachK M).map fun k => .int .i64 (valN L k)) false 0 Wl := by
    have b5 := Boxed.new w 3 (.int .i64 n)
    have b6 := Boxed.new (w.alloc (.cells #[.int .i64 n] 3)) 4 (.bool false)
    have b5' := b5.alloc (.cells #[.bool false] 4)
    have hsz1 : ((w.alloc (.cells #[.int .i64 n] 3)).alloc (.cells #[.bool false] 4)).heap.size = B + 1 + 1 := by simp only [World.size_alloc]; rw [HB.out]
    have k5 : Boxed w2 B 3 (.int .i64 n) := (HF.out.block B (by rw [hsz1]; omega) (fun h => h)).trans (by rw [← HB.out]; exact b5')
    have k6 : Boxed w2 (B + 1) 4 (.bool false) := (HF.out.block (B + 1) (by rw [hsz1]; omega) (fun h => h)).trans (by rw [← HB.out]; simp only [World.size_alloc] at b6; exact b6)
    have b7 := Boxed.new w2 39 (.slice a1 N c1)
    have b8 := Boxed.new (w2.alloc (.cells #[.slice a1 N c1] 39)) 106 (.slice a2 N c2)
    have b9 := Boxed.new ((w2.alloc (.cells #[.slice a1 N c1] 39)).alloc (.cells #[.slice a2 N c2] 106)) 3 (.int .i64 0)
    simp only [World.size_alloc] at b8 b9
    have hK := HK.out
    have hV := HV.out
    rw [hsz1] at hK hV
    have e1 : ∀ {ee : TypeId} {vv : Value} {yy : List Value}, w2.ownsRow (B + 1 + 1) ee 1 vv N yy → Wl.ownsRow B ee 1 vv N yy := fun hh => by
      rw [← hWl]
      exact ow_base ((((hh.alloc _).alloc _).alloc _).alloc _) (by omega)
    refine ⟨?_, ?_, ?_, ?_, ?_, e1 hK, e1 hV, fun g hg => (own_ltD hK g hg).2, fun g hg => ⟨by have := (own_ltD hV g hg).1; omega, (own_ltD hV g hg).2⟩, ?_⟩
    · rw [← hWl]; exact (((k5.alloc _).alloc _).alloc _).alloc _
    · rw [← hWl]; exact (((k6.alloc _).alloc _).alloc _).alloc _
    · rw [← hWl]; exact ((b7.alloc _).alloc _).alloc _
    · rw [← hWl]; exact (b8.alloc _).alloc _
    · rw [← hWl]; exact b9.alloc _
    · rw [← hWl]; exact (((HQ2.out.thenAlloc _).thenAlloc _).thenAlloc _).thenAlloc _
  have bN := Boxed.new (((w2.alloc (.cells #[.slice a1 N c1] 39)).alloc (.cells #[.slice a2 N c2] 106)).alloc (.cells #[.int .i64 0] 3)) 24 (.pointer (some ⟨d, 0, none⟩))
  simp only [World.size_alloc] at bN
  rw [hWl] at bN ⊢
  obtain ⟨z, hz⟩ : ∃ z, w2.heap.size = z := ⟨_, rfl⟩
  have hsz : z + 4 = Wl.heap.size := by rw [← hWl, ← hz]; simp
  rw [hz] at hS0 bN hs12 ⊢
  have HSZ := Lib.hid hsz
  have HS0 := Lib.hid hS0
  have HBZ : Hid (B + 1 < z) := by show _ < _; omega
  have HAl : Hid (Di.Al d (z + 1 + 1 + 1) M Wl) := ⟨HD.out.fr hS0.fr (fun _ _ h => h), bN⟩
  clear hWl bN hS0 hsz hs12 hz
  refine wpIn_rangeV rfl (by decide) (gf := 151) (lb := #[.pointer (some ⟨z + 1 + 1 + 1, 0, none⟩)]) rfl trivial (enters_of Try.func151 (by kernel_rfl) rfl)
    (Di.each_stops _ (8 - 1) trivial trivial trivial rfl (by decide) (z + 1 + 1 + 1) d M Wl.heap.size Wl (Nat.le_refl _) HAl.out (fun e he => ⟨_, (HEV.out e he).1⟩) (by have := HMN.out; omega))
    (fun _ _ _ h k => h.trans k) (fun V l r r' _ h => Di.EachK.loop _ V l r r' h) (Below.refl _ _) (fun _ => rfl)
    (fun pre V => Td w B z n (.slice a1 N c1) (.slice a2 N c2) N (eachK M) ((eachK M).map fun k => .int .i64 (valN L k)) false (pre.length : Int) V)
    (fun c _ V => c = .ret ∧ Boxed V (B + 1) 4 (.bool true) ∧ Fr (fun _ => False) w V)
    ?own ?ownx HS0.out
    (fun x => { tmps := #[.pointer (some ⟨d, 0, none⟩), .pointer (some ⟨p, 0, none⟩), .int .i64 n, undef, undef, .pointer (some ⟨B, 0, none⟩), .pointer (some ⟨B + 1, 0, none⟩), .pointer (some ⟨z, 0, none⟩), .pointer (some ⟨z + 1, 0, none⟩), .pointer (some ⟨z + 1 + 1, 0, none⟩), .string x.key, x.val.head?.getD undef, .tuple #[.slice a1 N c1, .slice a2 N c2], .pointer (some ⟨p, 0, none⟩), .tuple #[.slice a1 N c1, .slice a2 N c2], .slice a1 N c1, .slice a2 N c2, .pointer (some ⟨d, 0, none⟩), .func (.func 151) #[] #[.pointer (some ⟨z + 1 + 1 + 1, 0, none⟩)], .string x.key, x.val.head?.getD undef, undef, undef, undef, undef, undef, undef, undef, undef, undef, undef, undef, undef, undef, undef, undef, undef, undef, undef, undef, undef, undef, undef, undef, undef, undef, undef, undef, undef, undef], defers := [] }) ?assign ?body ?done ?stop
  case own =>
    rintro pre A' B' row hS hg hr
    exact hS.turn (by have := HB.out; omega) hg fun r e => ⟨by have := (hr r e).1; have := HSZ.out; have := HBZ.out; have := HB.out; omega, (hr r e).2⟩
  case ownx =>
    rintro c pre A' B' row ⟨hc, hb, hf⟩ hg hr
    refine ⟨hc, hb.kept hg (fun e => ?_), hf.wide (Fr.of_grownBy hg) (fun i hi => .inr (by have := (hr i hi).1; have := HSZ.out; have := HBZ.out; have := HB.out; omega))⟩
    have := (hr _ e.symm).1
    have := HSZ.out
    have := HBZ.out
    omega
  case assign =>
    intro lr x V K hK
    unfold Di.etE
    gi_wp2
    exact hK
  case body =>
    rintro lr pre x V hS hv
    have hx : x ∈ (opn M).flatten := hv.subset (by simp)
    have hxv := (HEV.out x hx).1
    have hval : x.val.head?.getD undef = .int .i64 (valN L x.key) := by rw [hxv]; rfl
    have hlen : (pre ++ [x]).length ≤ N := by rw [← HKN.out, HKL.out]; exact hv.length_le
    rw [List.length_append] at hlen
    obtain ⟨K0, hK0⟩ : ∃ k, pre.length = k := ⟨_, rfl⟩
    have hpl : K0 + 1 ≤ N := by rw [← hK0]; exact hlen
    have hat : (opn M).flatten[K0]? = some x := by
      obtain ⟨t, ht⟩ := hv
      rw [← ht, ← hK0, List.append_assoc, List.getElem?_append_right (Nat.le_refl _), Nat.sub_self]
      rfl
    have hkat : (eachK M)[K0]? = some x.key := by unfold eachK; rw [List.getElem?_map, hat]; rfl
    dsimp only
    rw [hval]
    rw [hK0] at hS
    obtain ⟨xk, hxk⟩ : ∃ s, x.key = s := ⟨_, rfl⟩
    rw [hxk] at hkat ⊢
    obtain ⟨g1, d1, e1, -⟩ := LRow.form ⟨_, hS.ks⟩ (by omega)
    obtain ⟨g2, d2, e2, -⟩ := LRow.form ⟨_, hS.vs⟩ (by omega)
    cases e1
    cases e2
    have y1 := (own_cell1 hS.ks (show K0 < N by omega)).1
    have y2 := (own_cell1 hS.vs (show K0 < N by omega)).1
    rw [List.getElem?_map, hkat, Option.map_some] at y1
    rw [List.getElem?_map, hkat, Option.map_some] at y2
    obtain ⟨xn, hxn⟩ : ∃ s, valN L xk = s := ⟨_, rfl⟩
    rw [hxn] at y2 ⊢
    have t5 := hS.b5.cell
    have t6 := hS.b6.frozen
    have t7 := hS.b7.cell
    have t8 := hS.b8.cell
    have t9 := hS.b9.cell
    have f9 := hS.b9.frozen
    have hwB : w.heap.size ≤ B := by have := HB.out; omega
    have hN2 : N ≤ 1048576 := by have := HFL.out; have := HKL.out; have := HKN.out; omega
    obtain ⟨T2, F2⟩ := hS.next hwB HBZ.out ((K0 : Int) + 1)
    have HT2 := Lib.hid T2
    have HF2 := Lib.hid F2
    have u9 := T2.b9.cell
    have u5 := T2.b5.cell
    have u6 := T2.b6.frozen
    have v6 := T2.b6.cell
    have hb1 : ¬ (N : Int) ≤ (K0 : Int) := by omega
    have hb2 : ¬ N ≤ K0 := by omega
    have hb3 : (0 : Int) ≤ (K0 : Int) := by omega
    have hb4 : (K0 : Int) < (N : Int) := by omega
    have hb5 : K0 < N := by omega
    have HS := Lib.hid hS
    have HLEN : Hid (((pre ++ [x]).length : Int) = (K0 : Int) + 1) := by show _ = _; rw [List.length_append, List.length_singleton, hK0]; rfl
    have HO2 : Hid (KeepsOthers V (V.setCell ⟨z + 1 + 1, 0, none⟩ (.int .i64 ((K0 : Int) + 1)))) := others_of F2 (fun k hk => ⟨3, .int .i64 (K0 : Int), by rw [show k = z + 1 + 1 from hk]; exact hS.b9⟩)
    obtain ⟨q1, q2, q3⟩ := T2.tell hwB true
    have HQ1 := Lib.hid q1
    have HQ2 := Lib.hid (others_of q2 (fun k hk => ⟨4, .bool false, by rw [show k = B + 1 from hk]; exact T2.b6⟩))
    have HQ3 := Lib.hid q3
    clear hS T2 F2 hx hxv hval hlen hv hat hkat q1 q2 q3 hxk hxn hK0
    by_cases hn : (K0 : Int) + 1 = n
    · subst hn
      gi_wp2
      exact ⟨⟨Nat.le_trans HO2.out.1 HQ2.out.1, fun k o hk hc => HQ2.out.2 k o (HO2.out.2 k o hk hc) hc⟩, rfl, HQ1.out, HQ3.out⟩
    · gi_wp2
      refine ⟨HO2.out, eachK_of HF2.out HO2.out (fun k hk => by have := HSZ.out; rw [show k = z + 1 + 1 from hk]; omega), ?_⟩
      dsimp only
      rw [HLEN.out]
      exact HT2.out
  case done =>
    rintro D ys V hD rfl hS hK
    have hNl : ((opn M).flatten.length : Int) = (N : Int) := by have := HKL.out; have := HKN.out; omega
    rw [hNl] at hS
    have t6 := hS.b6.frozen
    have v6 := hS.b6.cell
    have t7 := hS.b7.cell
    have t9 := hS.b9.cell
    obtain ⟨q1, q2, q3⟩ := hS.tell (by have := HB.out; omega) true
    have HK2 : Hid ((V.setCell ⟨B + 1, 0, none⟩ (.bool true)).heap[D]? = some (.deferred (some []))) := (q2.block D (Array.getElem?_eq_some_iff.1 hK).1 (by have := HSZ.out; have := HBZ.out; omega)).trans hK
    have HQ1 := Lib.hid q1
    have HQ3 := Lib.hid q3
    have hDB : ¬ D = B + 1 := by have := HSZ.out; have := HBZ.out; omega
    have hwD : w.heap.size ≤ D := by have := HSZ.out; have := HBZ.out; have := HB.out; omega
    clear hS q1 q2 q3 hK hNl
    gi_wp2
    refine ⟨by simp, .inl ⟨_, _, rfl, run_takeDeferred HK2.out, ?_⟩⟩
    have hg := grownBy_putObj' (V.setCell ⟨B + 1, 0, none⟩ (.bool true)) D (.deferred none)
    have hc : ((V.setCell ⟨B + 1, 0, none⟩ (.bool true)).putObj D (.deferred none)).cell? ⟨B + 1, 0, none⟩ = some (.bool true) := (HQ1.out.kept hg (fun e => hDB (Option.some.inj e).symm)).cell
    refine ⟨.bool true, ?_, rfl, HQ3.out.wide (Fr.of_grownBy hg) (fun i hi => .inr (by cases hi; exact hwD))⟩
    simp [results, Try.f21, go_sem, hc]
  case stop =>
    rintro D c pre V hD _ ⟨rfl, hb, hf⟩ hK
    have hDB : ¬ D = B + 1 := by have := HSZ.out; have := HBZ.out; omega
    have hwD : w.heap.size ≤ D := by have := HSZ.out; have := HBZ.out; have := HB.out; omega
    have HK2 := Lib.hid hK
    have HQ1 := Lib.hid hb
    have HQ3 := Lib.hid hf
    clear hb hf hK
    gi_wp2
    refine ⟨by simp, .inl ⟨_, _, rfl, run_takeDeferred HK2.out, ?_⟩⟩
    have hg := grownBy_putObj' V D (.deferred none)
    have hc : (V.putObj D (.deferred none)).cell? ⟨B + 1, 0, none⟩ = some (.bool true) := (HQ1.out.kept hg (fun e => hDB (Option.some.inj e).symm)).cell
    refine ⟨.bool true, ?_, rfl, HQ3.out.wide (Fr.of_grownBy hg) (fun i hi => .inr (by cases hi; exact hwD))⟩
    simp [results, Try.f21, go_sem, hc]
end Go.Proofs.Ytgomilodeaafdaa
namespace Go.Proofs.Ytgomilodeaafdaa
open Go.RowKit
theorem setG_len (L : Pl) (key : ByteArray) (v : Int) : (setG L key v).length ≤ L.length + 1 := by
  unfold setG
  split
  · rw [List.length_set]; omega
  · simp
theorem delG_len (L : Pl) (key : ByteArray) : (delG L key).length ≤ L.length + 1 := by
  unfold delG
  split
  · rw [List.length_eraseIdx]; split <;> omega
  · omega
theorem Di.valG_ls (L : Pl) (key : ByteArray) : Di.valG (Di.lsP L) key = .int .i64 (valN L key) := by
  unfold Di.valG valN
  rw [Di.ls_fd]
  cases ha : fdG key L with
  | none => rfl
  | some i =>
    obtain ⟨x, hx⟩ := fdG_some ha
    have : (Di.lsP L)[i]? = some (key, x) := by unfold Di.lsP; rw [List.getElem?_map, hx]; rfl
    dsimp only
    rw [this, hx]
    rfl
/-- what a step leaves -/
def PyP (w0 w : World) (F : Nat → Prop) (d p : Nat) (L : Pl) (e : Ending) (w' : World) : Prop := e = .returned (.bool true) ∧ ∃ L', L'.length ≤ L.length + 1 ∧ Di.BoTo w0 w F d p L' w'
set_option maxRecDepth 100000 in
set_option maxHeartbeats 4000000 in
theorem playsD_any (w0 w : World) (F : Nat → Prop) (d p : Nat) (L : Pl) (h : Di.Bo w0 w F d p L) (hL : L.length ≤ 1048576) (who do_ n v : Int) (key : ByteArray) (r : UInt64) (hk : key.size ≤ maxLen) :
    Calls Try.prog 18 #[.pointer (some ⟨d, 0, none⟩), .pointer (some ⟨p, 0, none⟩), .agg #[.int .i64 who, .int .i64 do_, .int .i64 n, .int .i64 v, .string key, .int .u64 (wd r)]] w (PyP w0 w F d p L) := by
  obtain ⟨w1, hw1⟩ : ∃ x, w.alloc (.cells #[.int .i64 who, .int .i64 do_, .int .i64 n, .int .i64 v, .string key, .int .u64 (wd r)] 33) = x := ⟨_, rfl⟩
  have hq1 : Fr (fun _ => False) w w1 := by rw [← hw1]; exact Fr.alloc _ _ _
  have hblk : w1.heap[w.heap.size]? = some (.cells #[.int .i64 who, .int .i64 do_, .int .i64 n, .int .i64 v, .string key, .int .u64 (wd r)] 33 (0, 0)) := by rw [← hw1]; exact World.alloc_heap_new w _
  have h1 := h.quiet hq1
  have HQ1 := Lib.hid hq1
  have HH := Lib.hid h1
  obtain ⟨hlt, hbel⟩ := h.lts
  have HLT := Lib.hid hlt
  have HBE := Lib.hid hbel.size
  have HC : Hid (∀ (w2 : World) (i : Nat), Fr F w1 w2 → w2.cell? ⟨w.heap.size, i, none⟩ = w1.cell? ⟨w.heap.size, i, none⟩) := fun w2 i hf => World.cell?_of_block (hf.block w.heap.size (Array.getElem?_eq_some_iff.1 hblk).1 (fun hk => by have := (hlt _ hk).2; omega))
  have b1 : w1.cell? ⟨w.heap.size, 1, none⟩ = some (.int .i64 do_) := cell_of_blk hblk 1
  have b2 : w1.cell? ⟨w.heap.size, 2, none⟩ = some (.int .i64 n) := cell_of_blk hblk 2
  have b3 : w1.cell? ⟨w.heap.size, 3, none⟩ = some (.int .i64 v) := cell_of_blk hblk 3
  have b4 : w1.cell? ⟨w.heap.size, 4, none⟩ = some (.string key) := cell_of_blk hblk 4
  have b5 : w1.cell? ⟨w.heap.size, 5, none⟩ = some (.int .u64 (wd r)) := cell_of_blk hblk 5
  have HP : Hid (∀ (L' : Pl) (w' : World), Di.BoTo w0 w1 F d p L' w' → Di.BoTo w0 w F d p L' w') := fun L' w' hb => Di.BoTo.pre hlt hbel.size hq1 hb
  have HST : Hid (∀ w', Fr (fun _ => False) w1 w' → Di.BoTo w0 w1 F d p L w') := fun w' hf => h1.stay hf
  clear h h1 hlt hbel hblk hq1
  by_cases d0 : do_ = 0
  · subst d0
    have HS := Lib.hid (Di.bo_set HH.out key v hk hL)
    go_enter Try.func18, Try.ntmps18
    go_wp2_with fail
    refine HS.out.mono ?_
    rintro e w2 ⟨rfl, hf2, hc2⟩
    have y3 := (HC.out w2 3 hf2).trans b3
    have y4 := (HC.out w2 4 hf2).trans b4
    have HC2 := Lib.hid (hc2 w2 (Fr.refl _ _))
    clear hf2 hc2
    go_wp2_with fail
    refine HC2.out.mono ?_
    rintro e w3 ⟨rfl, hb3⟩
    have HB3 := Lib.hid hb3
    clear hb3
    go_wp2_with fail
    go_ret
    exact ⟨by simp, _, setG_len L key v, HP.out _ _ HB3.out⟩
  by_cases d1 : do_ = 1
  · subst d1
    have HS := Lib.hid (Di.bo_get HH.out key hk hL)
    rw [Di.valG_ls] at HS
    go_enter Try.func18, Try.ntmps18
    go_wp2_with fail
    refine HS.out.mono ?_
    rintro e w2 ⟨rfl, hf2, hc2⟩
    have y4 := (HC.out w2 4 hf2).trans b4
    have HC2 := Lib.hid (hc2 w2 (Fr.refl _ _))
    clear hf2 hc2
    go_wp2_with fail
    refine HC2.out.mono ?_
    rintro e w3 ⟨rfl, hb3⟩
    have HB3 := Lib.hid hb3
    clear hb3
    go_wp2_with fail
    go_ret
    exact ⟨by simp, _, Nat.le_succ _, HP.out _ _ HB3.out⟩
  by_cases d2 : do_ = 2
  · subst d2
    have HS := Lib.hid (Di.bo_del HH.out key hk hL)
    go_enter Try.func18, Try.ntmps18
    go_wp2_with fail
    refine HS.out.mono ?_
    rintro e w2 ⟨rfl, hf2, hc2⟩
    have y4 := (HC.out w2 4 hf2).trans b4
    have HC2 := Lib.hid (hc2 w2 (Fr.refl _ _))
    clear hf2 hc2
    go_wp2_with fail
    refine HC2.out.mono ?_
    rintro e w3 ⟨rfl, hb3⟩
    have HB3 := Lib.hid hb3
    clear hb3
    go_wp2_with fail
    go_ret
    exact ⟨by simp, _, delG_len L key, HP.out _ _ HB3.out⟩
  by_cases d3 : do_ = 3
  · subst d3
    have HS := Lib.hid (Di.bo_clear HH.out)
    go_enter Try.func18, Try.ntmps18
    go_wp2_with fail
    refine HS.out.mono ?_
    rintro e w2 ⟨rfl, hf2, hc2⟩
    have HC2 := Lib.hid (hc2 w2 (Fr.refl _ _))
    clear hf2 hc2
    go_wp2_with fail
    refine HC2.out.mono ?_
    rintro e w3 ⟨rfl, hb3⟩
    have HB3 := Lib.hid hb3
    clear hb3
    go_wp2_with fail
    go_ret
    exact ⟨rfl, _, Nat.zero_le _, HP.out _ _ HB3.out⟩
  by_cases d4 : do_ = 4
  · subst d4
    have HS := Lib.hid (Di.bo_len HH.out hL)
    have HM := Lib.hid (Di.bo_lenM HH.out)
    go_enter Try.func18, Try.ntmps18
    go_wp2_with fail
    refine HS.out.mono ?_
    rintro e w2 ⟨rfl, rfl⟩
    go_wp2_with fail
    refine HM.out.mono ?_
    rintro e w2 ⟨rfl, rfl⟩
    go_wp2_with fail
    go_ret
    exact ⟨by simp, _, Nat.le_succ _, HP.out _ _ (HST.out _ (Fr.refl _ _))⟩
  by_cases d5 : do_ = 5
  · subst d5
    have HS := Lib.hid (liesD_any w0 w1 F d p L HH.out hL)
    go_enter Try.func18, Try.ntmps18
    go_wp2_with fail
    refine HS.out.mono ?_
    rintro e w2 ⟨rfl, hq2⟩
    have HQ2 := Lib.hid hq2
    clear hq2
    go_wp2_with fail
    go_ret
    exact ⟨rfl, _, Nat.le_succ _, HP.out _ _ (HST.out _ HQ2.out)⟩
  by_cases d6 : do_ = 6
  · subst d6
    have HS := Lib.hid (toldD_any w0 w1 F d p L HH.out hL n)
    go_enter Try.func18, Try.ntmps18
    go_wp2_with fail
    refine HS.out.mono ?_
    rintro e w2 ⟨rfl, hq2⟩
    have HQ2 := Lib.hid hq2
    clear hq2
    go_wp2_with fail
    go_ret
    exact ⟨rfl, _, Nat.le_succ _, HP.out _ _ (HST.out _ HQ2.out)⟩
  by_cases d7 : do_ = 7
  · subst d7
    obtain ⟨sk, sb, hs1, hs2⟩ := Di.bo_samp HH.out hL r.toNat r.toNat_lt
    have HM := Lib.hid (hs2 w1 (Fr.refl _ _))
    have HS := Lib.hid hs1
    clear hs1 hs2
    go_enter Try.func18, Try.ntmps18
    go_wp2_with fail
    refine HM.out.mono ?_
    rintro e w2 ⟨rfl, hq2⟩
    have HQ2 := Lib.hid hq2
    have y5 : w2.cell? ⟨w.heap.size, 5, none⟩ = some (.int .u64 (wd r)) := hq2.cell b5 (fun h => h)
    clear hq2
    go_wp2_with fail
    refine (HS.out _ HQ2.out).mono ?_
    rintro e w3 ⟨rfl, m3, hm3⟩
    have HQ3 : Hid (Fr (fun _ => False) w1 w3) := HQ2.out.wide (T := fun _ => False) (by rw [hm3]; exact Fr.drewN (fun _ => False) w2 m3) (fun _ h => h.elim)
    clear hm3
    go_wp2_with fail
    go_ret
    exact ⟨by simp, _, Nat.le_succ _, HP.out _ _ (HST.out _ HQ3.out)⟩
  go_enter Try.func18, Try.ntmps18
  go_wp2_with fail
  go_ret
  exact ⟨rfl, _, Nat.le_succ _, HP.out _ _ (HST.out _ (Fr.refl _ _))⟩
end Go.Proofs.Ytgomilodeaafdaa
namespace Go.Proofs.Ytgomilodeaafdaa
open Go.RowKit
theorem valN_none {L : Pl} {key : ByteArray} (ha : fdG key L = none) : valN L key = 0 := by unfold valN; rw [ha]
theorem Dt.valG_some {L : Pl} {key : ByteArray} {i : Nat} (ha : fdG key L = some i) : Dt.valG (Dt.lsP L) key = .agg #[.int .i64 (valN L key), .string key] := by
  unfold Dt.valG valN
  rw [Dt.ls_fd, ha]
  obtain ⟨x, hx⟩ := fdG_some ha
  have : (Dt.lsP L)[i]? = some (key, (x, key)) := by unfold Dt.lsP; rw [List.getElem?_map, hx]; rfl
  dsimp only
  rw [this, hx]
  rfl
theorem Dt.valG_none {L : Pl} {key : ByteArray} (ha : fdG key L = none) : Dt.valG (Dt.lsP L) key = .agg #[.int .i64 0, .string ⟨#[]⟩] := by
  unfold Dt.valG
  rw [Dt.ls_fd, ha]
  rfl
/-- what a step leaves -/
def ThP (w0 w : World) (F : Nat → Prop) (d p : Nat) (L : Pl) (e : Ending) (w' : World) : Prop := e = .returned (.bool true) ∧ ∃ L', L'.length ≤ L.length + 1 ∧ Dt.BoTo w0 w F d p L' w'
set_option maxRecDepth 100000 in
set_option maxHeartbeats 4000000 in
theorem thingsD_any (w0 w : World) (F : Nat → Prop) (d p : Nat) (L : Pl) (h : Dt.Bo w0 w F d p L) (hL : L.length ≤ 1048576) (who do_ n v : Int) (key : ByteArray) (r : UInt64) (hk : key.size ≤ maxLen) :
    Calls Try.prog 19 #[.pointer (some ⟨d, 0, none⟩), .pointer (some ⟨p, 0, none⟩), .agg #[.int .i64 who, .int .i64 do_, .int .i64 n, .int .i64 v, .string key, .int .u64 (wd r)]] w (ThP w0 w F d p L) := by
  obtain ⟨w1, hw1⟩ : ∃ x, w.alloc (.cells #[.int .i64 who, .int .i64 do_, .int .i64 n, .int .i64 v, .string key, .int .u64 (wd r)] 33) = x := ⟨_, rfl⟩
  have hq1 : Fr (fun _ => False) w w1 := by rw [← hw1]; exact Fr.alloc _ _ _
  have hblk : w1.heap[w.heap.size]? = some (.cells #[.int .i64 who, .int .i64 do_, .int .i64 n, .int .i64 v, .string key, .int .u64 (wd r)] 33 (0, 0)) := by rw [← hw1]; exact World.alloc_heap_new w _
  have h1 := h.quiet hq1
  have HQ1 := Lib.hid hq1
  have HH := Lib.hid h1
  obtain ⟨hlt, hbel⟩ := h.lts
  have HLT := Lib.hid hlt
  have HBE := Lib.hid hbel.size
  have HC : Hid (∀ (w2 : World) (i : Nat), Fr F w1 w2 → w2.cell? ⟨w.heap.size, i, none⟩ = w1.cell? ⟨w.heap.size, i, none⟩) := fun w2 i hf => World.cell?_of_block (hf.block w.heap.size (Array.getElem?_eq_some_iff.1 hblk).1 (fun hk => by have := (hlt _ hk).2; omega))
  have b1 : w1.cell? ⟨w.heap.size, 1, none⟩ = some (.int .i64 do_) := cell_of_blk hblk 1
  have b2 : w1.cell? ⟨w.heap.size, 2, none⟩ = some (.int .i64 n) := cell_of_blk hblk 2
  have b3 : w1.cell? ⟨w.heap.size, 3, none⟩ = some (.int .i64 v) := cell_of_blk hblk 3
  have b4 : w1.cell? ⟨w.heap.size, 4, none⟩ = some (.string key) := cell_of_blk hblk 4
  have b5 : w1.cell? ⟨w.heap.size, 5, none⟩ = some (.int .u64 (wd r)) := cell_of_blk hblk 5
  have HP : Hid (∀ (L' : Pl) (w' : World), Dt.BoTo w0 w1 F d p L' w' → Dt.BoTo w0 w F d p L' w') := fun L' w' hb => Dt.BoTo.pre hlt hbel.size hq1 hb
  have HST : Hid (∀ w', Fr (fun _ => False) w1 w' → Dt.BoTo w0 w1 F d p L w') := fun w' hf => h1.stay hf
  clear h h1 hlt hbel hblk hq1
  by_cases d0 : do_ = 0
  · subst d0
    have HS := Lib.hid (Dt.bo_set HH.out key v hk hL)
    go_enter Try.func19, Try.ntmps19
    go_wp2_with fail
    refine HS.out.mono ?_
    rintro e w2 ⟨rfl, hf2, hc2⟩
    have y3 := (HC.out w2 3 hf2).trans b3
    have y4 := (HC.out w2 4 hf2).trans b4
    have HC2 := Lib.hid (hc2 w2 (Fr.refl _ _))
    clear hf2 hc2
    go_wp2_with fail
    refine HC2.out.mono ?_
    rintro e w3 ⟨rfl, hb3⟩
    have HB3 := Lib.hid hb3
    clear hb3
    go_wp2_with fail
    go_ret
    exact ⟨by simp, _, setG_len L key v, HP.out _ _ HB3.out⟩
  by_cases d1 : do_ = 1
  · subst d1
    have HS := Lib.hid (Dt.bo_get HH.out key hk hL)
    cases ha : fdG key L with
    | some i =>
      rw [Dt.valG_some ha, ha] at HS
      obtain ⟨vn, hvn⟩ : ∃ x, valN L key = x := ⟨_, rfl⟩
      rw [hvn] at HS
      clear ha hvn
      go_enter Try.func19, Try.ntmps19
      go_wp2_with fail
      refine HS.out.mono ?_
      rintro e w2 ⟨rfl, hf2, hc2⟩
      have y4 := (HC.out w2 4 hf2).trans b4
      have HC2 := Lib.hid (hc2 w2 (Fr.refl _ _))
      clear hf2 hc2
      go_wp2_with fail
      refine HC2.out.mono ?_
      rintro e w3 ⟨rfl, hb3⟩
      have z4 : w3.cell? ⟨w.heap.size, 4, none⟩ = some (.string key) := (HC.out w3 4 hb3.2).trans b4
      have HB3 := Lib.hid hb3
      clear hb3
      have hs3 : w.heap.size < w3.heap.size := World.block_lt_of_cell? w3 _ z4
      go_wp2_with fail
      go_ret
      exact ⟨by simp, _, Nat.le_succ _, HP.out _ _ (HB3.out.then_ (Fr.alloc _ _ _))⟩
    | none =>
      rw [Dt.valG_none ha, ha, valN_none ha] at HS
      clear ha
      go_enter Try.func19, Try.ntmps19
      go_wp2_with fail
      refine HS.out.mono ?_
      rintro e w2 ⟨rfl, hf2, hc2⟩
      have y4 := (HC.out w2 4 hf2).trans b4
      have HC2 := Lib.hid (hc2 w2 (Fr.refl _ _))
      clear hf2 hc2
      go_wp2_with fail
      refine HC2.out.mono ?_
      rintro e w3 ⟨rfl, hb3⟩
      have z4 : w3.cell? ⟨w.heap.size, 4, none⟩ = some (.string key) := (HC.out w3 4 hb3.2).trans b4
      have HB3 := Lib.hid hb3
      clear hb3
      have hs3 : w.heap.size < w3.heap.size := World.block_lt_of_cell? w3 _ z4
      go_wp2_with fail
      go_ret
      exact ⟨by simp, _, Nat.le_succ _, HP.out _ _ (HB3.out.then_ (Fr.alloc _ _ _))⟩
  by_cases d2 : do_ = 2
  · subst d2
    have HS := Lib.hid (Dt.bo_del HH.out key hk hL)
    go_enter Try.func19, Try.ntmps19
    go_wp2_with fail
    refine HS.out.mono ?_
    rintro e w2 ⟨rfl, hf2, hc2⟩
    have y4 := (HC.out w2 4 hf2).trans b4
    have HC2 := Lib.hid (hc2 w2 (Fr.refl _ _))
    clear hf2 hc2
    go_wp2_with fail
    refine HC2.out.mono ?_
    rintro e w3 ⟨rfl, hb3⟩
    have HB3 := Lib.hid hb3
    clear hb3
    go_wp2_with fail
    go_ret
    exact ⟨by simp, _, delG_len L key, HP.out _ _ HB3.out⟩
  by_cases d3 : do_ = 3
  · subst d3
    have HS := Lib.hid (Dt.bo_clear HH.out)
    go_enter Try.func19, Try.ntmps19
    go_wp2_with fail
    refine HS.out.mono ?_
    rintro e w2 ⟨rfl, hf2, hc2⟩
    have HC2 := Lib.hid (hc2 w2 (Fr.refl _ _))
    clear hf2 hc2
    go_wp2_with fail
    refine HC2.out.mono ?_
    rintro e w3 ⟨rfl, hb3⟩
    have HB3 := Lib.hid hb3
    clear hb3
    go_wp2_with fail
    go_ret
    exact ⟨rfl, _, Nat.zero_le _, HP.out _ _ HB3.out⟩
  obtain ⟨sk, sb, hs1, hs2⟩ := Dt.bo_samp HH.out hL r.toNat r.toNat_lt
  have HM := Lib.hid hs2
  have HS := Lib.hid hs1
  obtain ⟨za, zb, zc, -, -, hz1, hz2⟩ := Dt.bo_sizes HH.out
  have HZ1 := Lib.hid (hz1 w1 (Fr.refl _ _))
  have HZ2 := Lib.hid hz2
  have HLE : Hid (∀ w2, Fr (fun _ => False) w1 w2 → Calls Try.prog 89 #[.pointer (some ⟨d, 0, none⟩)] w2 fun e w' => e = .returned (.int .i64 L.length) ∧ w2 = w') := fun w2 hq => Dt.bo_len (HH.out.quiet hq) hL
  have HLM : Hid (∀ w2, Fr (fun _ => False) w1 w2 → Calls Try.prog 79 #[.pointer (some ⟨p, 0, none⟩)] w2 fun e w' => e = .returned (.int .i64 L.length) ∧ w2 = w') := fun w2 hq => Dt.bo_lenM (HH.out.quiet hq)
  clear hs1 hs2 hz1 hz2
  go_enter Try.func19, Try.ntmps19
  go_wp2_with fail
  refine HZ1.out.mono ?_
  rintro e w2 ⟨rfl, m2, hm2⟩
  have HQ2 : Hid (Fr (fun _ => False) w1 w2) := (by rw [hm2]; exact Fr.drewN (fun _ => False) w1 m2)
  clear hm2
  go_wp2_with fail
  refine (HZ2.out _ HQ2.out).mono ?_
  rintro e w3 ⟨rfl, m3, hm3⟩
  have HQ3 : Hid (Fr (fun _ => False) w1 w3) := HQ2.out.wide (T := fun _ => False) (by rw [hm3]; exact Fr.drewN (fun _ => False) w2 m3) (fun _ h => h.elim)
  have y5 : w3.cell? ⟨w.heap.size, 5, none⟩ = some (.int .u64 (wd r)) := HQ3.out.cell b5 (fun h => h)
  clear hm3
  go_wp2_with fail
  refine (HM.out _ HQ3.out).mono ?_
  rintro e w4 ⟨rfl, hq4⟩
  have HQ4 : Hid (Fr (fun _ => False) w1 w4) := HQ3.out.wide hq4 (fun _ h => h.elim)
  have z5 : w4.cell? ⟨w.heap.size, 5, none⟩ = some (.int .u64 (wd r)) := HQ4.out.cell b5 (fun h => h)
  clear hq4
  go_wp2_with fail
  refine (HS.out _ HQ4.out).mono ?_
  rintro e w5 ⟨rfl, m5, hm5⟩
  have HQ5 : Hid (Fr (fun _ => False) w1 w5) := HQ4.out.wide (T := fun _ => False) (by rw [hm5]; exact Fr.drewN (fun _ => False) w4 m5) (fun _ h => h.elim)
  clear hm5
  go_wp2_with fail
  refine (HLE.out _ HQ5.out).mono ?_
  rintro e w6 ⟨rfl, rfl⟩
  go_wp2_with fail
  refine (HLM.out _ HQ5.out).mono ?_
  rintro e w6 ⟨rfl, rfl⟩
  go_wp2_with fail
  go_ret
  exact ⟨by simp, _, Nat.le_succ _, HP.out _ _ (HST.out _ HQ5.out)⟩
end Go.Proofs.Ytgomilodeaafdaa
namespace Go.Proofs.Ytgomilodeaafdaa
open Go.ChangeShapes Go.WideShapes Go.ChangeAt Go.RowKit Go.Deep

/-- a step as it comes in -/
structure Sp where
  who : Int
  do_ : Int
  n : Int
  v : Int
  key : ByteArray
  r : UInt64
def spCells (o : Sp) : List Value := [.int .i64 o.who, .int .i64 o.do_, .int .i64 o.n, .int .i64 o.v, .string o.key, .int .u64 (wd o.r)]
def spVal (o : Sp) : Value := .agg #[.int .i64 o.who, .int .i64 o.do_, .int .i64 o.n, .int .i64 o.v, .string o.key, .int .u64 (wd o.r)]
section
variable {H : Type} {enc : TypeId × Value → H} {P : Program} {w : World} {base : Nat} {spare : Nat → Bool} {held : Bool}
theorem struct_readD {t : TypeId} {fs : Array Field} {fuel : Nat} {cs : List Value} {x : DataW H × List MemPlace} (he : P.underlying t = some (.struct fs)) (hone : oneCellFields P fs = true) (hC : P.cellsOf t = fs.size)
    (h : DataW.trod enc P w base spare held fuel t cs = some x) :
    cs.length = fs.size ∧ ∀ (j : Nat) (f : Field), fs[j]? = some f → ∃ (v : Value) (n : Nat) (y : DataW H × List MemPlace), cs[j]? = some v ∧ DataW.trod enc P w base spare held n f.type [v] = some y := by
  obtain ⟨ys, n', hn', hy, hlen, hyl, hf⟩ := DataW.trod_struct he h
  rw [hC] at hlen
  refine ⟨hlen, fun j f hj => ?_⟩
  obtain ⟨ho, hk⟩ := hone_of hone j f hj
  have hjl : j < fs.size := (Array.getElem?_eq_some_iff.1 hj).1
  have h1 := hf j f hj
  rw [ho, hk] at h1
  have hone' : (cs.drop j).take 1 = [cs[j]'(by omega)] := by
    rw [List.drop_eq_getElem_cons (by omega)]
    rfl
  rw [hone'] at h1
  have hys : ys[j]? = some (ys[j]'(by omega)) := List.getElem?_eq_getElem (by omega)
  exact ⟨_, n', _, List.getElem?_eq_getElem (by omega), h1.trans hys⟩
end
theorem flat_atD {α : Type} (f : α → List Value) (n : Nat) (hf : ∀ x, (f x).length = n) (l : List α) (k j : Nat) (hk : k < l.length) (hj : j < n) : (l.flatMap f)[k * n + j]? = (f l[k])[j]? := by
  induction l generalizing k with
  | nil => simp at hk
  | cons x l ih =>
    rw [List.flatMap_cons]
    cases k with
    | zero =>
      rw [Nat.zero_mul, Nat.zero_add, List.getElem?_append_left (by rw [hf]; exact hj)]
      rfl
    | succ k =>
      have := ih k (by simpa using hk)
      rw [List.getElem?_append_right (by rw [hf, Nat.succ_mul]; omega), hf, show (k + 1) * n + j - n = k * n + j by rw [Nat.succ_mul]; omega]
      exact this

/-- a step whose key is a string of Go -/
abbrev SpB := { o : Sp // o.key.size ≤ maxLen }
def spb (o : SpB) : List Value := spCells o.1
theorem spb_len (o : SpB) : (spb o).length = 6 := rfl
section
variable {H : Type} {enc : TypeId × Value → H} {w : World} {base : Nat} {held : Bool}
theorem sp_read (n : Nat) (l : List Value) (y : DataW H × List MemPlace) (h : DataW.trod enc Try.prog w base (fun _ => true) held n 33 l = some y) : ∃ x : SpB, l = spb x := by
  obtain ⟨hl, hf⟩ := struct_readD Try.underlying33 (by kernel_rfl) (by kernel_rfl) h
  match l, hl with
  | [c0, c1, c2, c3, c4, c5], _ =>
    obtain ⟨v0, n0, y0, e0, t0⟩ := hf 0 _ rfl
    obtain ⟨v1, n1, y1, e1, t1⟩ := hf 1 _ rfl
    obtain ⟨v2, n2, y2, e2, t2⟩ := hf 2 _ rfl
    obtain ⟨v3, n3, y3, e3, t3⟩ := hf 3 _ rfl
    obtain ⟨v4, n4, y4, e4, t4⟩ := hf 4 _ rfl
    obtain ⟨v5, n5, y5, e5, t5⟩ := hf 5 _ rfl
    cases e0; cases e1; cases e2; cases e3; cases e4; cases e5
    obtain ⟨x0, g0, _, _⟩ := DataW.trod_int Try.underlying3 t0
    obtain ⟨x1, g1, _, _⟩ := DataW.trod_int Try.underlying3 t1
    obtain ⟨x2, g2, _, _⟩ := DataW.trod_int Try.underlying3 t2
    obtain ⟨x3, g3, _, _⟩ := DataW.trod_int Try.underlying3 t3
    obtain ⟨x4, g4, _, hs⟩ := DataW.trod_string Try.underlying9 t4
    obtain ⟨x5, g5, _, hw⟩ := DataW.trod_int Try.underlying22 t5
    obtain ⟨u, rfl⟩ := word_of hw
    cases g0; cases g1; cases g2; cases g3; cases g4; cases g5
    exact ⟨⟨⟨x0, x1, x2, x3, x4, u⟩, hs⟩, rfl⟩
end
/-- the cells of step k of a script -/
theorem sp_at {w : World} {a : Option Addr} {n cap : Nat} {l : List SpB} (h : RdC w 6 (.slice a n cap) n (l.flatMap spb)) (k : Nat) (hk : k < l.length) :
    ∃ g off, a = some ⟨g, off, none⟩ ∧ w.cell? ⟨g, off + k * 6, none⟩ = some (.int .i64 l[k].1.who) ∧ w.cell? ⟨g, off + k * 6 + 1, none⟩ = some (.int .i64 l[k].1.do_) ∧ w.cell? ⟨g, off + k * 6 + 2, none⟩ = some (.int .i64 l[k].1.n) ∧
      w.cell? ⟨g, off + k * 6 + 3, none⟩ = some (.int .i64 l[k].1.v) ∧ w.cell? ⟨g, off + k * 6 + 4, none⟩ = some (.string l[k].1.key) ∧ w.cell? ⟨g, off + k * 6 + 5, none⟩ = some (.int .u64 (wd l[k].1.r)) := by
  have hf := fun j hj => flat_atD spb 6 spb_len l k j hk hj
  have hpos : 0 < (l.flatMap spb).length := by
    have := hf 0 (by decide)
    have h2 : (spb l[k])[0]? = some (.int .i64 l[k].1.who) := rfl
    rw [h2] at this
    have := (List.getElem?_eq_some_iff.1 this).1
    omega
  obtain ⟨g, off, rfl, hc⟩ := h.at hpos
  refine ⟨g, off, rfl, ?_, ?_, ?_, ?_, ?_, ?_⟩
  · exact hc (k * 6 + 0) _ (by rw [hf 0 (by decide)]; rfl)
  · rw [Nat.add_assoc]; exact hc (k * 6 + 1) _ (by rw [hf 1 (by decide)]; rfl)
  · rw [Nat.add_assoc]; exact hc (k * 6 + 2) _ (by rw [hf 2 (by decide)]; rfl)
  · rw [Nat.add_assoc]; exact hc (k * 6 + 3) _ (by rw [hf 3 (by decide)]; rfl)
  · rw [Nat.add_assoc]; exact hc (k * 6 + 4) _ (by rw [hf 4 (by decide)]; rfl)
  · rw [Nat.add_assoc]; exact hc (k * 6 + 5) _ (by rw [hf 5 (by decide)]; rfl)
end Go.Proofs.Ytgomilodeaafdaa
