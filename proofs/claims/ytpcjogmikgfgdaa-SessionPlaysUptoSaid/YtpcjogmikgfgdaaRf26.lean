/- The reference's session (pantryref26): all that was done, in a list; what it comes to. New, twin, did, Open, Spoilt. No condition. -/
import Derived.Test.YtpcjogmikgfgdaaFoot
import Derived.Test.YtpcjogmikgfgdaaSameLs
import Derived.Deep.RegionLaw
import Derived.Deep.AppendLies
import Derived.Outline
namespace Go.Proofs.Ytpcjogmikgfgdaa
open Go.RowKit
/-- one thing that was done -/
structure Dd where
  k : Int
  v : Value
  ws : List ByteArray
def ddC (d : Dd) : List Value := [.int .i64 d.k, d.v]
/-- what it does -/
def st26 (S : SS) (d : Dd) : SS :=
  if d.k = 1 then { S with op := true }
  else if d.k = 2 then { S with q := S.q ++ [d.ws] }
  else if d.k = 3 then { S with sp := true }
  else if d.k = 4 then ⟨false, false, false, [], []⟩
  else if d.k = 5 then { S with wt := S.wt ++ d.ws }
  else if d.k = 6 then { S with di := false, wt := [] }
  else if d.k = 7 then { S with di := S.di || d.ws.any (fun k => inL k S.wt) }
  else S
def ss0 : SS := ⟨false, false, false, [], []⟩
def run26 (L : List Dd) : SS := L.foldl st26 ss0
theorem run26_snoc (L : List Dd) (d : Dd) : run26 (L ++ [d]) = st26 (run26 L) d := by unfold run26; rw [List.foldl_append]; rfl
theorem run26_take (L : List Dd) (t : Nat) (h : t < L.length) : run26 (L.take (t + 1)) = st26 (run26 (L.take t)) L[t] := by rw [List.take_succ_eq_append_getElem h, run26_snoc]
/-- the reference's session, its blocks of F -/
structure RefF (w : World) (B : Nat) (F : Nat → Prop) (q : Nat) (vr : Value) (L : List Dd) : Prop where
  blk : w.heap[q]? = some (.cells #[vr] 103 (0, 0))
  row : w.ownsRow B 118 2 vr L.length (L.flatMap ddC)
  wrd : ∀ d ∈ L, RdC w 1 d.v d.ws.length (d.ws.map .string) ∧ ∀ g, d.v.ownBlock = some g → F g ∧ TB w g
  wat : ∀ t, (h : t < L.length) → L[t].k = 5 → ∃ k, L[t].ws = [k] ∧ inL k (run26 (L.take t)).wt = false
  wsz : ∀ d ∈ L, d.ws.length * 16 ≤ 140737488351232
  fq : F q
  fr : ∀ g, vr.ownBlock = some g → F g
  lt : ∀ k, F k → B ≤ k ∧ k < w.heap.size
  ln : L.length ≤ 1099511627776
section
variable {w w' : World} {B q : Nat} {F T : Nat → Prop} {vr : Value} {L : List Dd}
theorem RefF.other (h : RefF w B F q vr L) (hf : Fr T w w') (hd : ∀ k, F k → ¬ T k) : RefF w' B F q vr L :=
  ⟨(hf.block q (h.lt q h.fq).2 (hd q h.fq)).trans h.blk, owns_fr h.row hf (fun g hg => hd g (h.fr g hg)), fun d hm => ⟨(h.wrd d hm).1.fr hf (fun g hg => hd g ((h.wrd d hm).2 g hg).1), fun g hg => ⟨((h.wrd d hm).2 g hg).1, ((h.wrd d hm).2 g hg).2.fr hf (hd g ((h.wrd d hm).2 g hg).1)⟩⟩, h.wat, h.wsz, h.fq, h.fr, fun k hk => ⟨(h.lt k hk).1, Nat.lt_of_lt_of_le (h.lt k hk).2 hf.size⟩, h.ln⟩
theorem RefF.quiet (h : RefF w B F q vr L) (hf : Fr (fun _ => False) w w') : RefF w' B F q vr L := h.other hf (fun _ _ h => h)
theorem RefF.base {B' : Nat} (h : RefF w B F q vr L) (hb : B' ≤ B) : RefF w B' F q vr L := by
  refine ⟨h.blk, ?_, h.wrd, h.wat, h.wsz, h.fq, h.fr, fun k hk => ⟨Nat.le_trans hb (h.lt k hk).1, (h.lt k hk).2⟩, h.ln⟩
  obtain ⟨z1, z2 | ⟨g, cap, cur, ze, zb, zr⟩⟩ := h.row
  · exact ⟨z1, .inl z2⟩
  · exact ⟨z1, .inr ⟨g, cap, cur, ze, Nat.le_trans hb zb, zr⟩⟩
theorem RefF.cell (h : RefF w B F q vr L) : w.cell? ⟨q, 0, none⟩ = some vr := cell_of_blk h.blk 0
theorem RefF.free (h : RefF w B F q vr L) : w.frozen? ⟨q, 0, none⟩ = false := free_of_blk h.blk 0
theorem RefF.qr (h : RefF w B F q vr L) : vr.ownBlock ≠ some q := by
  intro e
  obtain ⟨_, _, cs, hc⟩ := own_blk h.row e
  rw [h.blk] at hc
  simp only [Option.some.injEq, Obj.cells.injEq] at hc
  exact absurd hc.2.1 (by decide)
/-- one thing's cells, and its words -/
theorem RefF.at_ (h : RefF w B F q vr L) (t : Nat) (ht : t < L.length) : ∃ g off c a c2, vr = .slice (some ⟨g, off, none⟩) L.length c ∧ w.cell? ⟨g, off + t * 2, none⟩ = some (.int .i64 L[t].k) ∧ w.cell? ⟨g, off + t * 2 + 1, none⟩ = some (.slice a L[t].ws.length c2) ∧ L[t].v = .slice a L[t].ws.length c2 ∧ RdC w 1 (.slice a L[t].ws.length c2) L[t].ws.length (L[t].ws.map .string) := by
  obtain ⟨a0, c0, rfl⟩ := owns_sliceN h.row
  have hr := RdC.of_owns h.row
  have hpos : 0 < (L.flatMap ddC).length := by
    have h1 := flat_at ddC 2 (fun _ => rfl) L t 0 ht (by decide)
    have h2 : (ddC L[t])[0]? = some (.int .i64 L[t].k) := rfl
    rw [h2] at h1
    have := (List.getElem?_eq_some_iff.1 h1).1
    omega
  obtain ⟨g, off, rfl, hc⟩ := hr.at hpos
  have hw := (h.wrd L[t] (List.getElem_mem ht)).1
  obtain ⟨_, a, c2, hv, _⟩ := hw
  refine ⟨g, off, c0, a, c2, rfl, hc (t * 2) _ ((flat_at ddC 2 (fun _ => rfl) L t 0 ht (by decide)).trans rfl), ?_, hv, by rw [← hv]; exact (h.wrd L[t] (List.getElem_mem ht)).1⟩
  have h3 := hc (t * 2 + 1) _ ((flat_at ddC 2 (fun _ => rfl) L t 1 ht (by decide)).trans rfl)
  rw [← Nat.add_assoc] at h3
  rw [← hv]
  exact h3
end
theorem newRf_any (w : World) : Calls Try.prog 39 #[] w fun e w' => ∃ q, e = .returned (.pointer (some ⟨q, 0, none⟩)) ∧ RefF w' w.heap.size (fun k => w.heap.size ≤ k ∧ k < w'.heap.size) q (.slice none 0 0) [] ∧ Below w.heap.size w w' := by
  go_enter Try.func39, Try.ntmps39
  go_wp2
  go_ret
  exact ⟨w.heap.size, rfl, ⟨alloc_at _ _, World.ownsRow_nil _ _ _ _, fun d h => (by cases h), fun t h => (by cases h), fun d h => (by cases h), ⟨Nat.le_refl _, by simp⟩, fun g hg => (by cases hg), fun k hk => hk, by simp⟩, (Below.refl _ _).alloc (Nat.le_refl _) _⟩

set_option maxHeartbeats 400000 in
theorem twin_any (v : Value) (l : List ByteArray) (w : World) (h : RdC w 1 v l.length (l.map .string)) (hb : l.length * 16 ≤ 140737488355328) :
    Calls Try.prog 93 #[v] w (CPost w l) := by
  obtain ⟨i0, hi, hz0, hz1, hz2⟩ := info_parts infoS
  have hlen := h.len
  have HL := Lib.hid h
  obtain ⟨h1, a, cap, rfl, h2, h3, h4, h5⟩ := h
  clear h1 h5 h4
  go_enter Try.func93, Try.ntmps93
  go_wp2_with (at_builtin; refine wpl_append rfl (.tmp 5) (.tmp 6) 41 rfl w.heap.size 9 i0 (.string ⟨#[]⟩) 1 16 Try.underlying41 hi hz0 hz1 hz2 rfl (by decide) _ 0 [] rfl (World.ownsRow_lit w #[] 0 (Nat.le_refl _) (by decide) rfl) _ l.length (l.map .string) rfl (HL.out.below ((Below.refl _ _).alloc (Nat.le_refl _) _)) (one_strs l) (by omega) (by omega) (by simp) ?_; intro v' w' hown hgrow)
  go_ret
  rw [Nat.zero_add] at hown
  obtain ⟨a', c', rfl⟩ := owns_sliceN hown
  refine ⟨a', c', rfl, by simpa using hown, ?_⟩
  exact ((Below.refl _ _).alloc (Nat.le_refl _) _).grown hgrow (by simp) (fun k e => by cases e; exact Nat.le_refl _)
set_option maxRecDepth 100000 in
set_option maxHeartbeats 1000000 in
theorem openR_any (w : World) (B q : Nat) (F : Nat → Prop) (vr : Value) (L : List Dd) (h : RefF w B F q vr L) :
    Calls Try.prog 72 #[.pointer (some ⟨q, 0, none⟩)] w fun e w' => e = .returned (.bool (run26 L).op) ∧ Fr (fun _ => False) w w' := by
  have H := Lib.hid h
  have c1 := h.cell
  have hln := h.ln
  obtain ⟨a, c, rfl⟩ := owns_sliceN h.row
  clear h
  go_enter Try.func72, Try.ntmps72
  go_wp2_with fail
  go_loopw [3, 13] (fun o i wr => ∃ t : Nat, i = .int .i64 t ∧ t ≤ L.length ∧ o = .bool (run26 (L.take t)).op ∧ Hid (Fr (fun _ => False) w wr)) (fun _ i _ => L.length - (intOf i).toNat)
  case atStart => exact ⟨0, rfl, by omega, rfl, Fr.refl _ _⟩
  case round =>
    obtain ⟨t, rfl, ht, rfl, HF⟩ := hrel
    obtain ⟨wo, rfl⟩ : ∃ x, x = wr := ⟨_, rfl⟩
    by_cases hlt : t < L.length
    · obtain ⟨g, off, c', a2, c2, he, d0, d1, _, _⟩ := (H.out.quiet HF.out).at_ t hlt
      cases he
      have hb0 : (0 : Int) ≤ (t : Int) := by omega
      have hb1 : (t : Int) < (L.length : Int) := by omega
      have hst := run26_take L t hlt
      obtain ⟨d, hd⟩ : ∃ d, L[t] = d := ⟨_, rfl⟩
      rw [hd] at d0 d1 hst
      obtain ⟨S, hS⟩ : ∃ S, run26 (L.take t) = S := ⟨_, rfl⟩
      rw [hS] at hst ⊢
      obtain ⟨kk, hkk⟩ : ∃ k, d.k = k := ⟨_, rfl⟩
      rw [hkk] at d0
      have HFA := Lib.hid (HF.out.thenAlloc (.cells #[.int .i64 kk, .slice a2 d.ws.length c2] 118))
      by_cases h1 : kk = 1
      · have HST : Hid ((run26 (L.take (t + 1))).op = true) := by show _ = _; rw [hst]; unfold st26; simp [hkk, h1]
        subst h1
        clear hst hkk hd hS
        go_wp2_with fail
        go_roundw
        case rel => exact ⟨t + 1, by go_num, by omega, by rw [HST.out], HFA.out⟩
        case measure => simp [intOf]; omega
      · have g1 : (kk == 1) = false := by rw [beq_eq_false_iff_ne]; exact h1
        by_cases h4 : kk = 4
        · have HST : Hid ((run26 (L.take (t + 1))).op = false) := by show _ = _; rw [hst]; unfold st26; simp [hkk, h4]
          subst h4
          clear hst hkk hd hS h1
          go_wp2_with fail
          go_roundw
          case rel => exact ⟨t + 1, by go_num, by omega, by rw [HST.out], HFA.out⟩
          case measure => simp [intOf]; omega
        · have g4 : (kk == 4) = false := by rw [beq_eq_false_iff_ne]; exact h4
          have HST : Hid ((run26 (L.take (t + 1))).op = S.op) := by
            show _ = _
            rw [hst]
            unfold st26
            rw [hkk]
            repeat' split
            all_goals first | rfl | (exfalso; omega)
          clear hst hkk hd hS h1 h4
          go_wp2_with fail
          go_roundw
          case rel => exact ⟨t + 1, by go_num, by omega, by rw [HST.out], HFA.out⟩
          case measure => simp [intOf]; omega
    · obtain rfl : t = L.length := by omega
      rw [List.take_length]
      go_wp2_with fail
      go_ret
      exact ⟨rfl, HF.out⟩
set_option maxRecDepth 100000 in
set_option maxHeartbeats 1000000 in
theorem spoiltR_any (w : World) (B q : Nat) (F : Nat → Prop) (vr : Value) (L : List Dd) (h : RefF w B F q vr L) :
    Calls Try.prog 73 #[.pointer (some ⟨q, 0, none⟩)] w fun e w' => e = .returned (.bool (run26 L).sp) ∧ Fr (fun _ => False) w w' := by
  have H := Lib.hid h
  have c1 := h.cell
  have hln := h.ln
  obtain ⟨a, c, rfl⟩ := owns_sliceN h.row
  clear h
  go_enter Try.func73, Try.ntmps73
  go_wp2_with fail
  go_loopw [3, 13] (fun o i wr => ∃ t : Nat, i = .int .i64 t ∧ t ≤ L.length ∧ o = .bool (run26 (L.take t)).sp ∧ Hid (Fr (fun _ => False) w wr)) (fun _ i _ => L.length - (intOf i).toNat)
  case atStart => exact ⟨0, rfl, by omega, rfl, Fr.refl _ _⟩
  case round =>
    obtain ⟨t, rfl, ht, rfl, HF⟩ := hrel
    obtain ⟨wo, rfl⟩ : ∃ x, x = wr := ⟨_, rfl⟩
    by_cases hlt : t < L.length
    · obtain ⟨g, off, c', a2, c2, he, d0, d1, _, _⟩ := (H.out.quiet HF.out).at_ t hlt
      cases he
      have hb0 : (0 : Int) ≤ (t : Int) := by omega
      have hb1 : (t : Int) < (L.length : Int) := by omega
      have hst := run26_take L t hlt
      obtain ⟨d, hd⟩ : ∃ d, L[t] = d := ⟨_, rfl⟩
      rw [hd] at d0 d1 hst
      obtain ⟨S, hS⟩ : ∃ S, run26 (L.take t) = S := ⟨_, rfl⟩
      rw [hS] at hst ⊢
      obtain ⟨kk, hkk⟩ : ∃ k, d.k = k := ⟨_, rfl⟩
      rw [hkk] at d0
      have HFA := Lib.hid (HF.out.thenAlloc (.cells #[.int .i64 kk, .slice a2 d.ws.length c2] 118))
      by_cases h1 : kk = 3
      · have HST : Hid ((run26 (L.take (t + 1))).sp = true) := by show _ = _; rw [hst]; unfold st26; simp [hkk, h1]
        subst h1
        clear hst hkk hd hS
        go_wp2_with fail
        go_roundw
        case rel => exact ⟨t + 1, by go_num, by omega, by rw [HST.out], HFA.out⟩
        case measure => simp [intOf]; omega
      · have g1 : (kk == 3) = false := by rw [beq_eq_false_iff_ne]; exact h1
        by_cases h4 : kk = 4
        · have HST : Hid ((run26 (L.take (t + 1))).sp = false) := by show _ = _; rw [hst]; unfold st26; simp [hkk, h4]
          subst h4
          clear hst hkk hd hS h1
          go_wp2_with fail
          go_roundw
          case rel => exact ⟨t + 1, by go_num, by omega, by rw [HST.out], HFA.out⟩
          case measure => simp [intOf]; omega
        · have g4 : (kk == 4) = false := by rw [beq_eq_false_iff_ne]; exact h4
          have HST : Hid ((run26 (L.take (t + 1))).sp = S.sp) := by
            show _ = _
            rw [hst]
            unfold st26
            rw [hkk]
            repeat' split
            all_goals first | rfl | (exfalso; omega)
          clear hst hkk hd hS h1 h4
          go_wp2_with fail
          go_roundw
          case rel => exact ⟨t + 1, by go_num, by omega, by rw [HST.out], HFA.out⟩
          case measure => simp [intOf]; omega
    · obtain rfl : t = L.length := by omega
      rw [List.take_length]
      go_wp2_with fail
      go_ret
      exact ⟨rfl, HF.out⟩
end Go.Proofs.Ytpcjogmikgfgdaa
