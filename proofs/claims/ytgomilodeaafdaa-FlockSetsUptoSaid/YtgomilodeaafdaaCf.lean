/- Copies; three pairs. No condition. -/
import Derived.Test.YtgomilodeaafdaaCe
namespace Go.Proofs.Ytgomilodeaafdaa
open Go.ChangeShapes Go.WideShapes Go.ChangeAt Go.RowKit Du
/-- the names after so many adds -/
def cpGo : NM → Nat → List ByteArray → NM
  | N, _, [] => N
  | N, i, k :: ks => cpGo (setN (stepN N) k false i) (i + 1) ks
theorem cpGo_at {N : NM} {k : Nat} {l : List ByteArray} (h : k < l.length) : cpGo N k (l.drop k) = cpGo (setN (stepN N) l[k] false k) (k + 1) (l.drop (k + 1)) := by
  rw [List.drop_eq_getElem_cons h]
  rfl
theorem cp_new {α : Type} {l : List ByteArray} {k : Nat} (hk : k < l.length) (hn : l.Nodup) {A : List (ByteArray × α)} (h : A.map (·.1) = l.take k) : fdG l[k] A = none := by
  refine fdG_no fun e he hek => ?_
  have h1 : e.1 ∈ l.take k := by rw [← h]; exact List.mem_map_of_mem he
  obtain ⟨j, hj, e1⟩ := List.mem_take_iff_getElem.1 h1
  rw [hek] at e1
  have h3 := (List.nodup_iff_pairwise_ne.1 hn)
  have h4 := List.pairwise_iff_getElem.1 h3 j k (by omega) hk (by omega)
  exact h4 e1
theorem L0_of_keys {A : List Me} {l : List ByteArray} (h : A.map (·.1) = l) : L0 A = l.map fun x => (x, (0 : Int)) := by
  rw [← h]
  unfold L0
  rw [List.map_map]
  rfl
structure CpA (w w1 w2 wr : World) (r d : Nat) (l : List ByteArray) (T : NM) (k : Nat) (Fk : Nat → Prop) (Mk : DM) (Ak : List Me) : Prop where
  f : FloF wr w.heap.size Fk r d Mk Ak
  fr : Fr (fun j => w.heap.size ≤ j ∧ j < w1.heap.size) w2 wr
  away : ∀ j, Fk j → j < w1.heap.size ∨ w2.heap.size ≤ j
  todo : cpGo (nmM Mk) k (l.drop k) = T
  keys : Ak.map (·.1) = l.take k
  lens : Lens Mk 1048576
structure CpR (w w1 w2 wr : World) (mr : Nat) (l : List ByteArray) (T : NM) (k : Nat) (Fk : Nat → Prop) (Nk : NM) (Lk : Pl) (lk : List ByteArray) : Prop where
  f : RefF wr w.heap.size mr Fk Nk Lk lk
  fr : Fr (fun j => w.heap.size ≤ j ∧ j < w1.heap.size) w2 wr
  away : ∀ j, Fk j → j < w1.heap.size ∨ w2.heap.size ≤ j
  todo : cpGo Nk k (l.drop k) = T
  keys : Lk = (l.take k).map fun x => (x, (0 : Int))
section
variable {w w1 w2 wr : World} {r d mr k : Nat} {l lk : List ByteArray} {T Nk : NM} {Fk : Nat → Prop} {Mk : DM} {Ak : List Me} {Lk : Pl}
theorem cpA_add (h : CpA w w1 w2 wr r d l T k Fk Mk Ak) (hs1 : w.heap.size ≤ w1.heap.size) (hs2 : w1.heap.size ≤ w2.heap.size) (hk : k < l.length) (hn : l.Nodup) (hl : l.length ≤ 1048576) (hz : ∀ x ∈ l, x.size ≤ 1048576) :
    Calls Try.prog 41 #[.pointer (some ⟨r, 0, none⟩), .string l[k]] wr fun e w' => e = .returned (.tuple #[.bool true, .int .i64 0]) ∧ ∃ Fk Mk Ak, CpA w w1 w2 w' r d l T (k + 1) Fk Mk Ak := by
  have hal : Ak.length = k := by have := congrArg List.length h.keys; rw [List.length_map, List.length_take] at this; omega
  have hnew := cp_new hk hn h.keys
  have hB : w.heap.size ≤ wr.heap.size := by have := h.fr.size; omega
  have hlike := h.f.like
  refine (floAdd_new wr _ Fk r d Mk Ak l[k] h.f hB (hz _ (List.getElem_mem hk)) hnew (by omega)).mono ?_
  rintro e w' ⟨rfl, t, b, hg⟩
  have hls : Lens (setM (stepM Mk) l[k] (vl ()) t b) 1048576 := h.lens.step.set (inv_step Mk hlike.inv) (by rw [(step_lens Mk).2.2.2, hlike.count]; exact h.f.len) _ _ t b
  refine ⟨rfl, _, _, _, hg.1, h.fr.wide hg.2 (fun j hj => ?_), fun j hj => ?_, ?_, ?_, hls⟩
  · rcases h.away j hj with h1 | h1
    · exact .inl ⟨(h.f.lt j hj).1, h1⟩
    · exact .inr h1
  · rcases hj with hj | hj
    · exact h.away j hj
    · have := h.fr.size; exact .inr (by omega)
  · rw [← h.todo, cpGo_at hk, nm_set (inv_step Mk hlike.inv), nm_step, has_step hlike.inv, tw_key hlike, hnew, (step_lens Mk).2.2.2, hlike.count, hal]
    rfl
  · rw [setG_none hnew, List.map_append, h.keys, List.take_succ_eq_append_getElem hk]
    rfl
theorem cpR_add (h : CpR w w1 w2 wr mr l T k Fk Nk Lk lk) (hs1 : w.heap.size ≤ w1.heap.size) (hs2 : w1.heap.size ≤ w2.heap.size) (hk : k < l.length) (hn : l.Nodup) (hl : l.length ≤ 1048576) (hz : ∀ x ∈ l, x.size ≤ 1048576) :
    Calls Try.prog 42 #[.pointer (some ⟨mr, 0, none⟩), .string l[k]] wr fun e w' => e = .returned (.tuple #[.bool true, .int .i64 0]) ∧ ∃ Fk Nk Lk lk, CpR w w1 w2 w' mr l T (k + 1) Fk Nk Lk lk := by
  have hkm : Lk.map (·.1) = l.take k := by rw [h.keys, List.map_map]; exact List.map_id _
  have hal : Lk.length = k := by have := congrArg List.length hkm; rw [List.length_map, List.length_take] at this; omega
  have hnew := cp_new hk hn hkm
  have hB : w.heap.size ≤ wr.heap.size := by have := h.fr.size; omega
  refine (rfAdd_any wr _ mr Fk Nk Lk lk l[k] h.f hB (hz _ (List.getElem_mem hk))).mono ?_
  rintro e w' ⟨N', L', l', hg, hc⟩
  rw [hnew] at hc
  rcases hc with ⟨h9, -⟩ | ⟨-, h9, -⟩ | ⟨-, -, rfl, rfl, rfl⟩
  · cases h9
  · omega
  · refine ⟨rfl, _, _, _, _, hg.1, h.fr.wide hg.2 (fun j hj => ?_), fun j hj => ?_, ?_, ?_⟩
    · rcases h.away j hj with h1 | h1
      · exact .inl ⟨(h.f.lts j hj).1, h1⟩
      · exact .inr h1
    · rcases hj with hj | hj
      · exact h.away j hj
      · have := h.fr.size; exact .inr (by omega)
    · rw [← h.todo, cpGo_at hk, hal]
    · rw [h.keys, List.take_succ_eq_append_getElem hk, List.map_append]
      rfl
end
section
variable {w0 w : World} {F F1 F2 : Nat → Prop} {r d mr : Nat} {M : DM} {A : List Me} {l : List ByteArray}
set_option maxRecDepth 100000 in
set_option maxHeartbeats 2000000 in
theorem floCopy_any (h : Ha w0 w F F1 F2 r d mr M A (nmM M) (L0 A) l) : Calls Try.prog 36 #[.pointer (some ⟨r, 0, none⟩)] w fun e w' => ∃ r2 d2 M2 A2, e = .returned (.pointer (some ⟨r2, 0, none⟩)) ∧
    FloF w' w.heap.size (fun k => w.heap.size ≤ k ∧ k < w'.heap.size) r2 d2 M2 A2 ∧ nmM M2 = cpGo ⟨M.seed, [], [], 0⟩ 0 l ∧ A2.map (·.1) = l ∧ Lens M2 1048576 ∧ Fr (fun _ => False) w w' := by
  have c0 := h.f.seed0
  have hll := h.m.few
  have HLL : Hid (l.length ≤ 1048576) := hll
  have HZ := Lib.hid h.m.size
  have HND := Lib.hid (ltS_nodup h.m.rise)
  have HM : Hid (∀ W, Fr (fun _ => False) w W → Calls Try.prog 54 #[.pointer (some ⟨r, 0, none⟩)] W fun e w' => ∃ a c, e = .returned (.slice a l.length c) ∧ Nw W.heap.size w' (.slice a l.length c) l ∧ Fr (fun _ => False) W w') := fun W hf => bo_members (h.quiet hf)
  have HN := Lib.hid (floNew_any w M.seed)
  obtain ⟨sd, hsd⟩ : ∃ s, M.seed = s := ⟨_, rfl⟩
  rw [hsd] at c0 HN ⊢
  obtain ⟨T, hT⟩ : ∃ T, cpGo ⟨sd, [], [], 0⟩ 0 l = T := ⟨_, rfl⟩
  have HT := Lib.hid hT
  rw [hT]
  clear h hsd hT
  go_enter Try.func36, Try.ntmps36
  go_wp2_with fail
  refine HN.out.mono ?_
  rintro e w1 ⟨r2, d2, rfl, h2, hb⟩
  have hf1 := fr_bel0 hb
  have HF1 := Lib.hid hf1
  have HS1 : Hid (w.heap.size ≤ w1.heap.size) := hf1.size
  have H2 := Lib.hid h2
  have HM1 := Lib.hid (HM.out w1 hf1)
  clear h2 hb hf1 HM HN
  go_wp2_with fail
  refine HM1.out.mono ?_
  rintro e w2 ⟨aa, ac, rfl, ha, hf2⟩
  have HA := Lib.hid ha
  have HF2 := Lib.hid (HF1.out.trans hf2 (fun _ h _ => h))
  have HS2 : Hid (w1.heap.size ≤ w2.heap.size) := hf2.size
  have H3 : Hid (CpA w w1 w2 w2 r2 d2 l T 0 (fun k => w.heap.size ≤ k ∧ k < w1.heap.size) ⟨sd, 0, [], 0, [], 0, 0⟩ []) := ⟨H2.out.quiet hf2, Fr.refl _ _, fun j hj => .inl hj.2, HT.out, rfl, by unfold Lens; simp⟩
  clear ha hf2 HM1 H2
  go_wp2_with fail
  go_loopw [17] (fun i wr => ∃ (k : Nat) (Fk : Nat → Prop) (Mk : DM) (Ak : List Me), i = .int .i64 k ∧ k ≤ l.length ∧ Hid (CpA w w1 w2 wr r2 d2 l T k Fk Mk Ak)) (fun i _ => l.length - (intOf i).toNat)
  case atStart => exact ⟨0, _, _, _, rfl, by omega, H3⟩
  case round =>
    obtain ⟨k, Fk, Mk, Ak, rfl, hk, HC⟩ := hrel
    obtain ⟨wo, rfl⟩ : ∃ wo, wo = wr := ⟨_, rfl⟩
    clear H3 c0
    by_cases hlt : k < l.length
    · obtain ⟨g, off, e0, hc⟩ := rd_text (HA.out.fr HC.out.fr (fun j hj => hj.2)).rd k hlt
      cases e0
      have HAD := Lib.hid (cpA_add HC.out HS1.out HS2.out hlt HND.out HLL.out HZ.out)
      obtain ⟨x, hx⟩ : ∃ x, l[k] = x := ⟨_, rfl⟩
      rw [hx] at hc HAD
      have b0 : (0 : Int) ≤ (k : Int) := by omega
      have b1 : (k : Int) < (l.length : Int) := by omega
      clear hx
      go_wp2_with fail
      refine HAD.out.mono ?_
      rintro e w4 ⟨rfl, F4, M4, A4, h4⟩
      have H4 := Lib.hid h4
      clear h4
      go_wp2_with fail
      go_roundw
      case rel => exact ⟨k + 1, F4, M4, A4, by go_num, by omega, H4⟩
      case measure => simp [intOf]; omega
    · obtain rfl : k = l.length := by omega
      go_wp2_with fail
      go_ret
      refine ⟨r2, d2, Mk, Ak, rfl, HC.out.f.wide (fun j hj => HC.out.f.lt j hj) (fun j hj => hj), ?_, ?_, HC.out.lens, ?_⟩
      · have := HC.out.todo; rw [List.drop_length] at this; exact this
      · have := HC.out.keys; rw [List.take_length] at this; exact this
      · exact HF2.out.wide HC.out.fr (fun j hj => .inr hj.1)
end
set_option maxRecDepth 100000 in
set_option maxHeartbeats 2000000 in
theorem rfCopy_any {w : World} {B mr : Nat} {F : Nat → Prop} {N : NM} {L : Pl} {l : List ByteArray} (h : RefF w B mr F N L l) : Calls Try.prog 37 #[.pointer (some ⟨mr, 0, none⟩)] w fun e w' => ∃ mr2 l2, e = .returned (.pointer (some ⟨mr2, 0, none⟩)) ∧
    RefF w' w.heap.size mr2 (fun k => w.heap.size ≤ k ∧ k < w'.heap.size) (cpGo ⟨N.seed, [], [], 0⟩ 0 l) (l.map fun x => (x, (0 : Int))) l2 ∧ Fr (fun _ => False) w w' := by
  obtain ⟨p, Fd, X, av, hx⟩ := h.x
  have hll := h.few
  have HLL : Hid (l.length ≤ 1048576) := hll
  have HZ := Lib.hid h.size
  have HND := Lib.hid (ltS_nodup h.rise)
  have HN := Lib.hid (rfNew_any N.seed w)
  have HX := Lib.hid hx
  obtain ⟨aa, ac, rfl⟩ := owns_slice hx.row
  have c0 := hx.cells.1
  obtain ⟨sd, hsd⟩ : ∃ s, N.seed = s := ⟨_, rfl⟩
  rw [hsd] at c0 HN ⊢
  obtain ⟨T, hT⟩ : ∃ T, cpGo ⟨sd, [], [], 0⟩ 0 l = T := ⟨_, rfl⟩
  have HT := Lib.hid hT
  rw [hT]
  clear h hx hsd hT
  go_enter Try.func37, Try.ntmps37
  go_wp2_with fail
  refine HN.out.mono ?_
  rintro e w1 ⟨mr2, p2, Fd2, X2, rfl, h2, hf1⟩
  have HF1 := Lib.hid hf1
  have HS1 : Hid (w.heap.size ≤ w1.heap.size) := hf1.size
  have HX1 := Lib.hid (HX.out.quiet hf1)
  have c1 := HX1.out.cells.2.1
  have H3 : Hid (CpR w w1 w1 w1 mr2 l T 0 (fun k => w.heap.size ≤ k ∧ k < w1.heap.size) ⟨sd, [], [], 0⟩ [] []) := ⟨⟨⟨_, _, _, _, h2⟩, List.Pairwise.nil, List.Perm.nil, by simp, by simp, by simp, by simp⟩, Fr.refl _ _, fun j hj => .inl hj.2, HT.out, rfl⟩
  have HLT : Hid (∀ j, F j → j < w.heap.size) := fun j hj => (HX.out.lt j hj).2
  clear h2 hf1 HN c0
  go_wp2_with fail
  go_loopw [19] (fun i wr => ∃ (k : Nat) (Fk : Nat → Prop) (Nk : NM) (Lk : Pl) (lk : List ByteArray), i = .int .i64 k ∧ k ≤ l.length ∧ Hid (CpR w w1 w1 wr mr2 l T k Fk Nk Lk lk)) (fun i _ => l.length - (intOf i).toNat)
  case atStart => exact ⟨0, _, _, _, _, rfl, by omega, H3⟩
  case round =>
    obtain ⟨k, Fk, Nk, Lk, lk, rfl, hk, HC⟩ := hrel
    obtain ⟨wo, rfl⟩ : ∃ wo, wo = wr := ⟨_, rfl⟩
    clear H3 c1
    by_cases hlt : k < l.length
    · obtain ⟨g, off, e0, hc⟩ := rd_text (RdC.of_owns (HX1.out.other HC.out.fr (fun j hj ht => by have := HLT.out j hj; omega)).row) k hlt
      cases e0
      have HAD := Lib.hid (cpR_add HC.out HS1.out (Nat.le_refl _) hlt HND.out HLL.out HZ.out)
      obtain ⟨x, hx⟩ : ∃ x, l[k] = x := ⟨_, rfl⟩
      rw [hx] at hc HAD
      have b0 : (0 : Int) ≤ (k : Int) := by omega
      have b1 : (k : Int) < (l.length : Int) := by omega
      clear hx
      go_wp2_with fail
      refine HAD.out.mono ?_
      rintro e w4 ⟨rfl, F4, N4, L4, l4, h4⟩
      have H4 := Lib.hid h4
      clear h4
      go_wp2_with fail
      go_roundw
      case rel => exact ⟨k + 1, F4, N4, L4, l4, by go_num, by omega, H4⟩
      case measure => simp [intOf]; omega
    · obtain rfl : k = l.length := by omega
      go_wp2_with fail
      go_ret
      have h1 := HC.out.todo
      have h2 := HC.out.keys
      rw [List.drop_length] at h1
      rw [List.take_length] at h2
      have h3 : Nk = T := h1
      have hF := HC.out.f
      rw [h3, h2] at hF
      refine ⟨mr2, lk, rfl, ?_, HF1.out.wide HC.out.fr (fun j hj => .inr hj.1)⟩
      obtain ⟨⟨p, Fd, X, av, q⟩, q2, q3, q4, q5, q6, q7⟩ := hF
      exact ⟨⟨p, Fd, X, av, ⟨q.blk, q.lt _ q.fm, q.nm, q.d, fun j hj => q.lt j (q.fd j hj), q.row, fun g hg => q.lt g (q.fa g hg), q.na, fun j hj => hj⟩⟩, q2, q3, q4, q5, q6, q7⟩
theorem floCopy_nil (w : World) : Calls Try.prog 36 #[.pointer none] w fun e w' => ∃ r d, e = .returned (.pointer (some ⟨r, 0, none⟩)) ∧ FloF w' w.heap.size (fun k => w.heap.size ≤ k ∧ k < w'.heap.size) r d ⟨0, 0, [], 0, [], 0, 0⟩ [] ∧ Below w.heap.size w w' := by
  have HN := Lib.hid (floNew_any w 0)
  have e0 : wd 0 = 0 := rfl
  rw [e0] at HN
  clear e0
  go_enter Try.func36, Try.ntmps36
  go_wp2_with fail
  refine HN.out.mono ?_
  rintro e w1 ⟨r, d, rfl, h1, h2⟩
  have H1 := Lib.hid h1
  clear h1
  go_wp2_with fail
  go_ret
  exact ⟨r, d, rfl, H1.out, h2⟩
theorem rfCopy_nil (w : World) : Calls Try.prog 37 #[.pointer none] w fun e w' =>
    ∃ mr p Fd X, e = .returned (.pointer (some ⟨mr, 0, none⟩)) ∧ RefFx w' w.heap.size mr (fun k => w.heap.size ≤ k ∧ k < w'.heap.size) ⟨0, [], [], 0⟩ [] [] p Fd X (.slice none 0 0) ∧ Fr (fun _ => False) w w' := by
  have HN := Lib.hid (rfNew_any 0 w)
  have e0 : wd 0 = 0 := rfl
  rw [e0] at HN
  clear e0
  go_enter Try.func37, Try.ntmps37
  go_wp2_with fail
  refine HN.out.mono ?_
  rintro e w1 ⟨mr, p, Fd, X, rfl, h1, h2⟩
  have H1 := Lib.hid h1
  clear h1
  go_wp2_with fail
  go_ret
  exact ⟨mr, p, Fd, X, rfl, H1.out, h2⟩
end Go.Proofs.Ytgomilodeaafdaa
namespace Go.Proofs.Ytgomilodeaafdaa
open Go.ChangeShapes Go.WideShapes Go.ChangeAt Go.RowKit Du
def pick3 {α : Type} (a b c : α) : Nat → α
  | 0 => a
  | 1 => b
  | _ => c
abbrev ptr3 (i : Nat) : Value := .pointer (some ⟨i, 0, none⟩)
abbrev blkG (r : Nat → Nat) : Obj := .cells #[ptr3 (r 0), ptr3 (r 1), ptr3 (r 2)] 69 (0, 0)
abbrev blkH (r : Nat → Nat) : Obj := .cells #[ptr3 (r 0), ptr3 (r 1), ptr3 (r 2)] 72 (0, 0)
abbrev iv (a b : Nat) : Nat → Prop := fun k => a ≤ k ∧ k < b
structure Tri3 (w0 w : World) (g h : Nat) (r m : Nat → Nat) (F : Nat → Nat → Prop) : Prop where
  bo : ∀ k, k < 3 → ∃ A, Bo w0 w (F k) (r k) (m k) A
  dis : ∀ j k, j < 3 → k < 3 → j ≠ k → ∀ i, F j i → ¬ F k i
  bg : w.heap[g]? = some (blkG r)
  bh : w.heap[h]? = some (blkH m)
  ng : ∀ k, k < 3 → ¬ F k g
  nh : ∀ k, k < 3 → ¬ F k h
  gh : g ≠ h
  lg : w0.heap.size ≤ g
  lh : w0.heap.size ≤ h
  fr : Fr (fun _ => False) w0 w
theorem lt_of_blk {w : World} {g : Nat} {o : Obj} (h : w.heap[g]? = some o) : g < w.heap.size := (Array.getElem?_eq_some_iff.1 h).1
section
variable {w0 w w' w1 w2 w3 v1 : World} {g h : Nat} {r m : Nat → Nat} {F G : Nat → Nat → Prop} {k : Nat}
theorem Tri3.lg' (T : Tri3 w0 w g h r m F) : g < w.heap.size := lt_of_blk T.bg
theorem Tri3.lh' (T : Tri3 w0 w g h r m F) : h < w.heap.size := lt_of_blk T.bh
theorem Tri3.cg (T : Tri3 w0 w g h r m F) (hk : k < 3) : w.cell? ⟨g, k, none⟩ = some (ptr3 (r k)) := by
  match k, hk with
  | 0, _ => exact cell_of_blk T.bg 0
  | 1, _ => exact cell_of_blk T.bg 1
  | 2, _ => exact cell_of_blk T.bg 2
theorem Tri3.ch (T : Tri3 w0 w g h r m F) (hk : k < 3) : w.cell? ⟨h, k, none⟩ = some (ptr3 (m k)) := by
  match k, hk with
  | 0, _ => exact cell_of_blk T.bh 0
  | 1, _ => exact cell_of_blk T.bh 1
  | 2, _ => exact cell_of_blk T.bh 2
theorem Tri3.zg (T : Tri3 w0 w g h r m F) (k : Nat) : w.frozen? ⟨g, k, none⟩ = false := free_of_blk T.bg k
theorem Tri3.zh (T : Tri3 w0 w g h r m F) (k : Nat) : w.frozen? ⟨h, k, none⟩ = false := free_of_blk T.bh k
theorem Tri3.quiet (T : Tri3 w0 w g h r m F) (hf : Fr (fun _ => False) w w') : Tri3 w0 w' g h r m F :=
  ⟨fun k hk => by obtain ⟨A, hb⟩ := T.bo k hk; exact ⟨A, hb.quiet hf⟩, T.dis, (hf.block g T.lg' (fun h => h)).trans T.bg, (hf.block h T.lh' (fun h => h)).trans T.bh, T.ng, T.nh, T.gh, T.lg, T.lh, T.fr.trans hf (fun _ h _ => h)⟩
/-- one pair is turned -/
theorem Tri3.turn (T : Tri3 w0 w g h r m F) (hk : k < 3) (b : BoTo w0 w (F k) (r k) (m k) w') : ∃ F', Tri3 w0 w' g h r m F' := by
  obtain ⟨A', hb, hf⟩ := b
  obtain ⟨A, hk0⟩ := T.bo k hk
  have hlow : ∀ i, F k i → w0.heap.size ≤ i := fun i hi => (hk0.lts.1 i hi).1
  refine ⟨fun j => if j = k then Grew (F k) w w' else F j, fun j hj => ?_, fun a b ha hb2 hab i h1 h2 => ?_, (hf.block g T.lg' (T.ng k hk)).trans T.bg, (hf.block h T.lh' (T.nh k hk)).trans T.bh, fun j hj h1 => ?_, fun j hj h1 => ?_, T.gh, T.lg, T.lh, T.fr.wide hf (fun i hi => .inr (hlow i hi))⟩
  · by_cases e : j = k
    · subst e
      exact ⟨A', by rw [if_pos rfl]; exact hb⟩
    · rw [if_neg e]
      obtain ⟨B, hB⟩ := T.bo j hj
      exact ⟨B, hB.other hf (T.dis j k hj hk e) hlow⟩
  · by_cases e1 : a = k
    · subst e1
      have e2 : b ≠ a := fun e => hab e.symm
      rw [if_pos rfl] at h1
      rw [if_neg e2] at h2
      rcases h1 with h1 | h1
      · exact T.dis a b hk hb2 hab i h1 h2
      · obtain ⟨B, hB⟩ := T.bo b hb2
        have := (hB.lts.1 i h2).2
        omega
    · rw [if_neg e1] at h1
      by_cases e2 : b = k
      · subst e2
        rw [if_pos rfl] at h2
        rcases h2 with h2 | h2
        · exact T.dis a b ha hk hab i h1 h2
        · obtain ⟨B, hB⟩ := T.bo a ha
          have := (hB.lts.1 i h1).2
          omega
      · rw [if_neg e2] at h2
        exact T.dis a b ha hb2 hab i h1 h2
  · by_cases e : j = k
    · subst e
      rw [if_pos rfl] at h1
      rcases h1 with h1 | h1
      · exact T.ng j hj h1
      · have := T.lg'; omega
    · rw [if_neg e] at h1; exact T.ng j hj h1
  · by_cases e : j = k
    · subst e
      rw [if_pos rfl] at h1
      rcases h1 with h1 | h1
      · exact T.nh j hj h1
      · have := T.lh'; omega
    · rw [if_neg e] at h1; exact T.nh j hj h1
/-- the third pair is made anew, of pair k -/
theorem Tri3.copy (T : Tri3 w0 w g h r m F) {F1 F2 : Nat → Prop} {d d2 r2 mr2 : Nat} {M M2 : DM} {A A2 : List Me} {l l2 : List ByteArray} (_hk : k < 3) (_hh : Ha w0 w (F k) F1 F2 (r k) d (m k) M A (nmM M) (L0 A) l)
    (hc : FloF w1 w.heap.size (iv w.heap.size w1.heap.size) r2 d2 M2 A2) (hn : nmM M2 = cpGo ⟨M.seed, [], [], 0⟩ 0 l) (hA : A2.map (·.1) = l) (hl : Lens M2 1048576) (hf1 : Fr (fun _ => False) w w1)
    (hs1 : Fr (fun i => i = g) w1 v1) (hb1 : v1.heap[g]? = some (blkG (pick3 (r 0) (r 1) r2)))
    (hm : RefF w2 v1.heap.size mr2 (iv v1.heap.size w2.heap.size) (cpGo ⟨M.seed, [], [], 0⟩ 0 l) (l.map fun x => (x, (0 : Int))) l2) (hf2 : Fr (fun _ => False) v1 w2)
    (hs2 : Fr (fun i => i = h) w2 w3) (hb2 : w3.heap[h]? = some (blkH (pick3 (m 0) (m 1) mr2))) : ∃ F', Tri3 w0 w3 g h (pick3 (r 0) (r 1) r2) (pick3 (m 0) (m 1) mr2) F' := by
  have hz1 := hf1.size
  have hz2 := hs1.size
  have hz3 := hf2.size
  have hz4 := hs2.size
  have hz0 := T.fr.size
  have lg := T.lg'
  have lh := T.lh'
  have hall : Fr (fun i => i = g ∨ i = h) w w3 := (((hf1.mono (T := fun i => i = g ∨ i = h) (fun _ h _ => h.elim)).trans hs1 (fun i hi _ => .inl hi)).trans hf2 (fun _ h _ => h.elim)).trans hs2 (fun i hi _ => .inr hi)
  have hlow : ∀ i, (i = g ∨ i = h) → w0.heap.size ≤ i := fun i hi => by
    have := T.lg
    have := T.lh
    omega
  have hf3 : FloF w3 w0.heap.size (iv w.heap.size w1.heap.size) r2 d2 M2 A2 := (((hc.other hs1 (fun i hi e => by have := hi.1; omega)).quiet hf2).other hs2 (fun i hi e => by have := hi.1; omega)).base hz0
  have hm3 : RefF w3 w0.heap.size mr2 (iv v1.heap.size w2.heap.size) (nmM M2) (L0 A2) l2 := by
    rw [hn, L0_of_keys hA]
    exact (hm.other hs2 (fun i hi e => by have := hi.1; omega)).base (by omega)
  have hbo : Bo w0 w3 (iv w.heap.size w3.heap.size) r2 mr2 A2 := ⟨_, _, d2, M2, l2, fun i hi => ⟨hi.1, by have := hi.2; omega⟩, fun i hi => ⟨by have := hi.1; omega, by have := hi.2; omega⟩, fun i hi hi2 => by have := hi.2; have := hi2.1; omega, hf3, hm3, fun i hi => ⟨by have := hi.1; omega, hi.2⟩, (T.fr.below (Nat.le_refl _) (fun _ h => h.elim)).trans (hall.below hz0 hlow), hl⟩
  have old : ∀ j, j < 3 → j ≠ 2 → ∃ A, Bo w0 w3 (F j) (r j) (m j) A := fun j hj _ => by
    obtain ⟨B, hB⟩ := T.bo j hj
    exact ⟨B, hB.other hall (fun i hi e => e.elim (fun e => T.ng j hj (e ▸ hi)) (fun e => T.nh j hj (e ▸ hi))) hlow⟩
  have far : ∀ j, j < 3 → ∀ i, F j i → i < w.heap.size := fun j hj i hi => by
    obtain ⟨B, hB⟩ := T.bo j hj
    exact (hB.lts.1 i hi).2
  have hg3 : w3.heap[g]? = some (blkG (pick3 (r 0) (r 1) r2)) := ((hs2.block g (by omega) T.gh).trans (hf2.block g (by omega) (fun h => h))).trans hb1
  refine ⟨pick3 (F 0) (F 1) (iv w.heap.size w3.heap.size), fun j hj => ?_, fun a b ha hb hab i h1 h2 => ?_, hg3, hb2, fun j hj h1 => ?_, fun j hj h1 => ?_, T.gh, T.lg, T.lh, T.fr.wide hall (fun i hi => .inr (hlow i hi))⟩
  · match j, hj with
    | 0, _ => exact old 0 (by omega) (by omega)
    | 1, _ => exact old 1 (by omega) (by omega)
    | 2, _ => exact ⟨A2, hbo⟩
  · match a, b, ha, hb with
    | 0, 0, _, _ => exact hab rfl
    | 0, 1, _, _ => exact T.dis 0 1 (by omega) (by omega) (by omega) i h1 h2
    | 0, 2, _, _ => have := far 0 (by omega) i h1; have h3 : iv w.heap.size w3.heap.size i := h2; have := h3.1; omega
    | 1, 0, _, _ => exact T.dis 1 0 (by omega) (by omega) (by omega) i h1 h2
    | 1, 1, _, _ => exact hab rfl
    | 1, 2, _, _ => have := far 1 (by omega) i h1; have h3 : iv w.heap.size w3.heap.size i := h2; have := h3.1; omega
    | 2, 0, _, _ => have := far 0 (by omega) i h2; have h3 : iv w.heap.size w3.heap.size i := h1; have := h3.1; omega
    | 2, 1, _, _ => have := far 1 (by omega) i h2; have h3 : iv w.heap.size w3.heap.size i := h1; have := h3.1; omega
    | 2, 2, _, _ => exact hab rfl
  · match j, hj with
    | 0, _ => exact T.ng 0 (by omega) h1
    | 1, _ => exact T.ng 1 (by omega) h1
    | 2, _ => have h3 : iv w.heap.size w3.heap.size g := h1; have := h3.1; omega
  · match j, hj with
    | 0, _ => exact T.nh 0 (by omega) h1
    | 1, _ => exact T.nh 1 (by omega) h1
    | 2, _ => have h3 : iv w.heap.size w3.heap.size h := h1; have := h3.1; omega
end
/-- three new flocks in a block of pointers -/
structure Fs1 (w0 w : World) (s : Nat → UInt64) (g : Nat) (r : Nat → Nat) (F : Nat → Nat → Prop) : Prop where
  f : ∀ k, k < 3 → ∃ d, FloF w w0.heap.size (F k) (r k) d ⟨s k, 0, [], 0, [], 0, 0⟩ []
  dis : ∀ j k, j < 3 → k < 3 → j ≠ k → ∀ i, F j i → ¬ F k i
  ng : ∀ k, k < 3 → ¬ F k g
  bg : w.heap[g]? = some (blkG r)
  lg : w0.heap.size ≤ g
  fr : Fr (fun _ => False) w0 w
/-- three new flocks of the document in a block of pointers -/
structure Ms1 (w0 w : World) (s : Nat → UInt64) (g : Nat) (r : Nat → Nat) (F : Nat → Nat → Prop) : Prop where
  f : ∀ k, k < 3 → ∃ p Fd X, RefFx w w0.heap.size (r k) (F k) ⟨s k, [], [], 0⟩ [] [] p Fd X (.slice none 0 0)
  dis : ∀ j k, j < 3 → k < 3 → j ≠ k → ∀ i, F j i → ¬ F k i
  ng : ∀ k, k < 3 → ¬ F k g
  bg : w.heap[g]? = some (blkH r)
  lg : w0.heap.size ≤ g
  fr : Fr (fun _ => False) w0 w
theorem iv3 {a0 b0 a1 b1 a2 b2 : Nat} (h1 : b0 ≤ a1) (h2 : b1 ≤ a2) (h3 : a1 ≤ b1) : ∀ j k, j < 3 → k < 3 → j ≠ k → ∀ i, pick3 (iv a0 b0) (iv a1 b1) (iv a2 b2) j i → ¬ pick3 (iv a0 b0) (iv a1 b1) (iv a2 b2) k i := fun j k hj hk hjk i q1 q2 => by
  have e : ∀ j, j < 3 → pick3 (iv a0 b0) (iv a1 b1) (iv a2 b2) j i → (j = 0 ∧ i < b0 ∧ a0 ≤ i) ∨ (j = 1 ∧ a1 ≤ i ∧ i < b1) ∨ (j = 2 ∧ a2 ≤ i ∧ i < b2) := fun j hj q => by
    match j, hj with
    | 0, _ => exact .inl ⟨rfl, q.2, q.1⟩
    | 1, _ => exact .inr (.inl ⟨rfl, q.1, q.2⟩)
    | 2, _ => exact .inr (.inr ⟨rfl, q.1, q.2⟩)
  have := e j hj q1
  have := e k hk q2
  omega
theorem iv3n {a0 b0 a1 b1 a2 b2 g : Nat} (h0 : g < a0 ∨ b0 ≤ g) (h1 : g < a1 ∨ b1 ≤ g) (h2 : g < a2 ∨ b2 ≤ g) : ∀ k, k < 3 → ¬ pick3 (iv a0 b0) (iv a1 b1) (iv a2 b2) k g := fun k hk q => by
  match k, hk with
  | 0, _ => have q : iv a0 b0 g := q; have := q.1; have := q.2; omega
  | 1, _ => have q : iv a1 b1 g := q; have := q.1; have := q.2; omega
  | 2, _ => have q : iv a2 b2 g := q; have := q.1; have := q.2; omega
/-- the three pairs, new -/
theorem tri3_new {w0 w1 w2 : World} {s : Nat → UInt64} {g h : Nat} {r m : Nat → Nat} {F G : Nat → Nat → Prop} (S : Fs1 w0 w1 s g r F) (T : Ms1 w1 w2 s h m G) : Tri3 w0 w2 g h r m (fun k i => F k i ∨ G k i) := by
  have hz := S.fr.size
  have hz2 := T.fr.size
  have lg := lt_of_blk S.bg
  have hF : ∀ k, k < 3 → ∀ i, F k i → w0.heap.size ≤ i ∧ i < w1.heap.size := fun k hk i hi => by
    obtain ⟨d, hf⟩ := S.f k hk
    exact hf.lt i hi
  have hG : ∀ k, k < 3 → ∀ i, G k i → w1.heap.size ≤ i ∧ i < w2.heap.size := fun k hk i hi => by
    obtain ⟨p, Fd, X, hf⟩ := T.f k hk
    exact hf.lt i hi
  refine ⟨fun k hk => ?_, fun a b ha hb hab i h1 h2 => ?_, (T.fr.block g lg (fun h => h)).trans S.bg, T.bg, fun k hk h1 => ?_, fun k hk h1 => ?_, by have := T.lg; omega, S.lg, by have := T.lg; omega, S.fr.trans T.fr (fun _ h _ => h)⟩
  · obtain ⟨d, hf⟩ := S.f k hk
    obtain ⟨p, Fd, X, hx⟩ := T.f k hk
    refine ⟨[], F k, G k, d, _, [], fun i hi => .inl hi, fun i hi => .inr hi, fun i h1 h2 => ?_, hf.quiet T.fr, ⟨⟨p, Fd, X, _, hx.base hz⟩, List.Pairwise.nil, List.Perm.nil, by simp, by simp, by simp [nmM], by simp [nmM]⟩, fun i hi => ?_, (S.fr.trans T.fr (fun _ h _ => h)).below (Nat.le_refl _) (fun _ h => h.elim), by unfold Lens; simp⟩
    · have := (hF k hk i h1).2
      have := (hG k hk i h2).1
      omega
    · rcases hi with hi | hi
      · have := hF k hk i hi; omega
      · have := hG k hk i hi; omega
  · rcases h1 with h1 | h1 <;> rcases h2 with h2 | h2
    · exact S.dis a b ha hb hab i h1 h2
    · have := (hF a ha i h1).2; have := (hG b hb i h2).1; omega
    · have := (hF b hb i h2).2; have := (hG a ha i h1).1; omega
    · exact T.dis a b ha hb hab i h1 h2
  · rcases h1 with h1 | h1
    · exact S.ng k hk h1
    · have := (hG k hk g h1).1; omega
  · rcases h1 with h1 | h1
    · have := (hF k hk h h1).2; have := T.lg; omega
    · exact T.ng k hk h1
end Go.Proofs.Ytgomilodeaafdaa
