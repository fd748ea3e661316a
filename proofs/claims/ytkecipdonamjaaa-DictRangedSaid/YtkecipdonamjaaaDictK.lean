/- The calls of a dict of whole numbers, told by the plain list beside it. -/
import Derived.Test.YtkecipdonamjaaaDiW10
import Derived.Test.YtkecipdonamjaaaDictQ
namespace Go.Proofs.Ytkecipdonamjaaa
open Go.RowKit Di

/-- what a call leaves: a dict that holds what the list holds, in its own blocks and new ones -/
def Left_ (w : World) (d : Nat) (M : DM) (L : Pl) (w' : World) : Prop := ∃ M', Turn w d M w' M' ∧ Like M' L ∧ Little M M' ∧ SL M M'
theorem new_dat (w : World) (seed : UInt64) : DAt (w.alloc (fieldsO 109 ⟨seed, 0, [], 0, [], 0, 0⟩)) w.heap.size ⟨seed, 0, [], 0, [], 0, 0⟩ ∧ Like ⟨seed, 0, [], 0, [], 0, 0⟩ [] ∧
    ∀ k, Bs (dictL w.heap.size ⟨seed, 0, [], 0, [], 0, 0⟩) k → k = w.heap.size := by
  have e1 : dictL w.heap.size ⟨seed, 0, [], 0, [], 0, 0⟩ = [(w.heap.size, fieldsO 109 ⟨seed, 0, [], 0, [], 0, 0⟩)] := by unfold dictL dictO; rw [tabO_nil]; rfl
  have hinv : Inv ⟨seed, 0, [], 0, [], 0, 0⟩ := (clear_inv ⟨seed, 0, [], 0, [], 0, 0⟩).1
  refine ⟨⟨?_, ?_, (fun e he => by cases he), hinv, Nat.zero_le _, Nat.zero_le _⟩, ⟨hinv, List.Perm.refl _⟩, fun k hk => ?_⟩
  · rw [e1]; exact Rep.cons (alloc_at _ _) (Rep.nil _)
  · rw [e1]; exact Nd.cons_iff.2 ⟨fun hb => Bs.nil_iff.1 hb, List.nodup_nil⟩
  · rw [e1, Bs.cons_iff] at hk
    rcases hk with h | h
    · exact h
    · exact absurd h (fun hb => Bs.nil_iff.1 hb)
/-- a new dict -/
def NewD (seed : UInt64) (w : World) (e : Ending) (w' : World) : Prop :=
  ∃ d M, e = .returned (.pointer (some ⟨d, 0, none⟩)) ∧ DAt w' d M ∧ Like M [] ∧ M.seed = seed ∧ M.old = [] ∧ M.young = [] ∧ M.at_ = 0 ∧ Hid (∀ k, Bs (dictL d M) k → w.heap.size ≤ k) ∧ Below w.heap.size w w'
theorem new_like (w : World) (seed : UInt64) (x : Int) (hx : x = wd seed) : Calls Try.prog 21 #[.int .u64 x] w (NewD seed w) := by
  subst hx
  obtain ⟨D0, L0, B0⟩ := new_dat w seed
  refine (Di.new_any seed w).mono fun e w' ⟨h1, h2⟩ => ?_
  subst h2
  exact ⟨_, _, h1, D0, L0, rfl, rfl, rfl, rfl, fun k hk => Nat.le_of_eq (B0 k hk).symm, (Below.refl _ _).alloc (Nat.le_refl _) _⟩
theorem set_like (w : World) (d : Nat) (M : DM) (L : Pl) (key : ByteArray) (x : Int) (hs : key.size ≤ maxLen) (h : DAt w d M) (hl : Like M L) (hn : L.length < 17592186044416) :
    Calls Try.prog 22 #[.pointer (some ⟨d, 0, none⟩), .string key, .int .i64 x] w fun e w' => e = .returned (.bool (atOf key L).isNone) ∧ Left_ w d M (setL L key x) w' := by
  refine (Di.set_any w d M key x hs h (by rw [hl.count]; exact hn)).mono fun e w' ⟨h1, t, b, h2⟩ => ⟨?_, _, h2, hl.set key x t b, little_set hl.inv key _ t b, set_seed hl.inv key _ t b, fun K hK hn => hK.set hl.inv hn key _ t b⟩
  rw [h1, hl.has]
  cases atOf key L <;> rfl
theorem del_like (w : World) (d : Nat) (M : DM) (L : Pl) (key : ByteArray) (hs : key.size ≤ maxLen) (h : DAt w d M) (hl : Like M L) (hn : L.length < 17592186044416) :
    Calls Try.prog 24 #[.pointer (some ⟨d, 0, none⟩), .string key] w fun e w' => e = .returned (.bool (atOf key L).isSome) ∧ Left_ w d M (delL L key) w' :=
  (Di.del_any w d M key hs h (by rw [hl.count]; exact hn)).mono fun e w' ⟨h1, t, h2⟩ => ⟨by rw [h1, hl.has], _, h2, hl.delete key t, little_del hl.inv key t, del_seed hl.inv key t, fun K hK hn => hK.del hl.inv hn key t⟩
/-- what lies under a key; 0 where there is nothing -/
def valOf (L : Pl) (key : ByteArray) : Int := match atOf key L with
  | some i => (L.getD i (key, 0)).2
  | none => 0
theorem got_like {M : DM} {L : Pl} (hl : Like M L) (key : ByteArray) : Di.gotV (getM (stepM M) key) = .tuple #[.int .i64 (valOf L key), .bool (atOf key L).isSome] := by
  rw [hl.step.get key]
  unfold Di.gotV valOf
  cases atOf key L <;> rfl
theorem get_like (w : World) (d : Nat) (M : DM) (L : Pl) (key : ByteArray) (hs : key.size ≤ maxLen) (h : DAt w d M) (hl : Like M L) :
    Calls Try.prog 23 #[.pointer (some ⟨d, 0, none⟩), .string key] w fun e w' => e = .returned (.tuple #[.int .i64 (valOf L key), .bool (atOf key L).isSome]) ∧ Left_ w d M L w' :=
  (Di.get_turn w d M key hs h).mono fun e w' ⟨h1, h2⟩ => ⟨by rw [h1, got_like hl], _, h2, hl.step, little_step hl.inv, (step_lens M).2.2.1, fun K hK _ => hK.step⟩
theorem clear_like (w : World) (d : Nat) (M : DM) (h : DAt w d M) :
    Calls Try.prog 25 #[.pointer (some ⟨d, 0, none⟩)] w fun e w' => e = .returned (.tuple #[]) ∧ ∃ M', Turn w d M w' M' ∧ Like M' [] ∧ SL M M' ∧ M'.at_ = 0 :=
  (Di.clear_any w d M h).mono fun e w' ⟨h1, h2⟩ => ⟨h1, _, h2, ⟨(clear_inv M).1, by rw [(clear_inv M).2]; exact List.Perm.refl _⟩, ⟨rfl, fun _ _ _ => ⟨Nat.zero_le _, Nat.zero_le _⟩⟩, rfl⟩
theorem len_like (w : World) (d : Nat) (M : DM) (L : Pl) (n : Int) (h : DAt w d M) (hl : Like M L) (hn : L.length < 17592186044416) (he : (L.length : Int) = n) :
    Calls Try.prog 26 #[.pointer (some ⟨d, 0, none⟩)] w fun e w' => e = .returned (.int .i64 n) ∧ w = w' :=
  (Di.len_any w d M h (by rw [hl.count]; omega)).mono fun e w' ⟨h1, h2⟩ => ⟨by rw [h1, hl.count, he], h2⟩
set_option maxRecDepth 100000 in
set_option maxHeartbeats 1000000 in
/-- what each statement asks first -/
theorem wakes_any (w : World) : Calls Try.prog 20 #[] w fun e w' => e = .returned (.bool true) ∧ Below w.heap.size w w' := by
  have hk : (⟨#[97]⟩ : ByteArray).size ≤ maxLen := by decide
  go_enter Try.func20, Try.ntmps20
  go_wp2_with fail
  refine (new_like _ 5 5 rfl).mono ?_
  rintro e w0 ⟨d, M0, rfl, D0, L0, -, -, -, -, HB0, hb0⟩
  have HBW := Lib.hid hb0
  clear hb0
  go_wp2_with fail
  refine (set_like _ d _ [] ⟨#[97]⟩ 1 hk D0 L0 (by decide)).mono ?_
  rintro e w1 ⟨rfl, M1, T1, L1, _⟩
  have H1 := Lib.hid T1
  clear D0 L0 T1
  go_wp2_with fail
  refine (set_like _ d _ [(⟨#[97]⟩, 1)] ⟨#[97]⟩ 2 hk H1.out.at_ L1 (by decide)).mono ?_
  rintro e w2 ⟨rfl, M2, T2, L2, _⟩
  have H2 := Lib.hid (H1.out.trans T2)
  clear H1 L1 T2
  go_wp2_with fail
  refine (len_like _ d _ [(⟨#[97]⟩, 2)] 1 H2.out.at_ L2 (by decide) rfl).mono ?_
  rintro e w' ⟨rfl, rfl⟩
  go_wp2_with fail
  refine (get_like _ d _ [(⟨#[97]⟩, 2)] ⟨#[97]⟩ hk H2.out.at_ L2).mono ?_
  rintro e w3 ⟨rfl, M3, T3, L3, _⟩
  have H3 := Lib.hid (H2.out.trans T3)
  clear H2 L2 T3
  go_wp2_with fail
  refine (del_like _ d _ [(⟨#[97]⟩, 2)] ⟨#[97]⟩ hk H3.out.at_ L3 (by decide)).mono ?_
  rintro e w4 ⟨rfl, M4, T4, L4, _⟩
  have H4 := Lib.hid (H3.out.trans T4)
  clear H3 L3 T4
  go_wp2_with fail
  refine (del_like _ d _ [] ⟨#[97]⟩ hk H4.out.at_ L4 (by decide)).mono ?_
  rintro e w5 ⟨rfl, M5, T5, L5, _⟩
  have H5 := Lib.hid (H4.out.trans T5)
  clear H4 L4 T5
  go_wp2_with fail
  refine (len_like _ d _ [] 0 H5.out.at_ L5 (by decide) rfl).mono ?_
  rintro e w' ⟨rfl, rfl⟩
  go_wp2_with fail
  go_ret
  refine ⟨rfl, ?_⟩
  have F := H5.out.fr
  exact HBW.out.trans (F.below HBW.out.size HB0.out)
end Go.Proofs.Ytkecipdonamjaaa
