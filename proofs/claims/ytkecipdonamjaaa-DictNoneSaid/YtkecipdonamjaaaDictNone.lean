/- DictNone: a nil dict, and a new one. No condition. -/
import Derived.Test.YtkecipdonamjaaaDictK
import Derived.Test.YtkecipdonamjaaaDiE3
import Derived.Test.YtkecipdonamjaaaDsE3
import Derived.Test.YtkecipdonamjaaaDsW6
import Derived.Test.YtkecipdonamjaaaWrap
namespace Go.Proofs.Ytkecipdonamjaaa
open Go.ChangeShapes Go.WideShapes Go.ChangeAt Go.RowKit Go.Shelf
attribute [local go_sem] Oper.semAt_some
theorem get0 (k : ByteArray) (w : World) : Calls Try.prog 23 #[.pointer none, .string k] w fun e w' => e = .returned (.tuple #[.int .i64 0, .bool false]) ∧ w = w' := by
  go_enter Try.func23, Try.ntmps23
  go_wp2
  go_ret2
  exact ⟨rfl, rfl⟩
theorem sample0 (r : Int) (w : World) : Calls Try.prog 33 #[.pointer none, .int .u64 r] w fun e w' => e = .returned (.tuple #[.string ⟨#[]⟩, .bool false]) ∧ w = w' := by
  go_enter Try.func33, Try.ntmps33
  go_wp2
  go_ret2
  exact ⟨rfl, rfl⟩
theorem sizes0  (w : World) : Calls Try.prog 27 #[.pointer none] w fun e w' => e = .returned (.tuple #[.int .i64 0, .int .i64 0, .int .i64 0]) ∧ w = w' := by
  go_enter Try.func27, Try.ntmps27
  go_wp2
  go_ret3
  exact ⟨rfl, rfl⟩
theorem clear0  (w : World) : Calls Try.prog 25 #[.pointer none] w fun e w' => ∃ v, e = .returned v ∧ w = w' := by
  go_enter Try.func25, Try.ntmps25
  go_wp2
  refine bodyPost_ret (results_none rfl _ _ _) rfl ⟨_, rfl, rfl⟩
theorem len0  (w : World) : Calls Try.prog 26 #[.pointer none] w fun e w' => e = .returned (.int .i64 0) ∧ w = w' := by
  go_enter Try.func26, Try.ntmps26
  go_wp2
  go_ret
  exact ⟨rfl, rfl⟩
theorem set0 (k : ByteArray) (x : Int) (w : World) : Calls Try.prog 22 #[.pointer none, .string k, .int .i64 x] w fun e w' => e = .returned (.bool false) ∧ w = w' := by
  go_enter Try.func22, Try.ntmps22
  go_wp2
  go_ret
  exact ⟨rfl, rfl⟩
theorem del0 (k : ByteArray) (w : World) : Calls Try.prog 24 #[.pointer none, .string k] w fun e w' => e = .returned (.bool false) ∧ w = w' := by
  go_enter Try.func24, Try.ntmps24
  go_wp2
  go_ret
  exact ⟨rfl, rfl⟩
theorem bucket0 (t i : Int) (w : World) : Calls Try.prog 30 #[.pointer none, .int .i64 t, .int .i64 i] w fun e w' => e = .returned (.slice none 0 0) ∧ w = w' := by
  go_enter Try.func30, Try.ntmps30
  go_wp2
  go_ret
  exact ⟨rfl, rfl⟩
theorem func_nil (b : Nat) (w : World) : (binOp .eql 58 (.func (.func 67) #[] #[.pointer (some ⟨b, 0, none⟩)]) .nilFunc).run Try.prog w = .ok (.bool false) w := by kernel_rfl
/-- a loop over an iterator that tells nothing -/
theorem range_none {F : Fence} {n : Nat} {P : Program} {g : Operand} {ps : Array Tmp} {body : Code} {Q : Exit → Act → World → Prop} {a : Act} {w : World} (hro : F.round = none) (h1 : 1 ≤ n) {gf : Nat} {lb : Array Value} (hg : a.eval g = .func (.func gf) #[] lb) (hFg : F.fn gf)
    (eg : ∀ args w, (callFunc gf args).run P w = .ok (.enter gf args) w) {encs : E → Array Value} {V S Sp : List E → Prop} {Kp : World → World → Prop} (hseq : SeqV F (n - 1) P gf lb encs Kp V S Sp w) (hV : ∀ pre x, ¬ V (pre ++ [x])) (hps : ∀ x, (encs x).size = ps.size)
    (hdone : ∀ (D : Nat) (W : World), w.heap.size ≤ D → Below w.heap.size w W → W.heap[D]? = some (.deferred (some [])) → Q .normal { a with defers := { target := .collected D, args := #[] } :: a.defers } W) :
    (Code.rangeFunc g ps .skip body).wpIn F n P Q a w :=
  wpIn_rangeV hro h1 hg hFg eg (Kp := Late 0) (fun l J Jx W hW hJ hJx _ h0 => hseq l J Jx W hW hJ hJx (fun pre x W1 _ hv => absurd hv (hV pre x)) h0) (fun _ _ _ h k => h.trans k) (fun W l r r' _ h => Late.putLoop 0 W l r _ h) (Below.refl _ _) hps (fun _ V => Below w.heap.size w V) (fun _ _ _ => False)
    (ownFrom_below (Nat.le_refl _) (Nat.le_refl _)) (fun _ _ _ _ _ hs _ _ => hs) (Below.refl _ _)
    (fun x => { tmps := (ps.zip (encs x)).foldl (fun t (p, v) => t.setIfInBounds p v) a.tmps, defers := [] }) (fun l x W K hK => wpIn_skip hK) (fun _ pre x _ _ h => absurd h (hV pre x))
    (fun D xs W hD _ hB hK => hdone D W hD hB hK) (fun _ _ _ _ _ _ h _ => h.elim)
theorem fr_bel2 {w w' : World} (hb : Below w.heap.size w w') : Fr (fun _ => False) w w' := ⟨hb.os, hb.tape, hb.output, hb.size, fun k hk _ => hb.block k hk⟩
theorem new_ds (w : World) : Calls Try.prog 37 #[.int .u64 1] w fun e w' => e = .returned (.pointer (some ⟨w.heap.size, 0, none⟩)) ∧ Ds.DAt w' w.heap.size ⟨1, 0, [], 0, [], 0, 0⟩ ∧ Fr (fun _ => False) w w' := by
  refine (Ds.new_any 1 w).mono ?_
  rintro e w' ⟨rfl, rfl⟩
  have e1 : Ds.dictL w.heap.size ⟨1, 0, [], 0, [], 0, 0⟩ = [(w.heap.size, fieldsO 123 ⟨1, 0, [], 0, [], 0, 0⟩)] := by unfold Ds.dictL dictO; rw [tabO_nil]; rfl
  refine ⟨rfl, ⟨?_, ?_, (fun e he => by cases he), (Di.clear_inv ⟨1, 0, [], 0, [], 0, 0⟩).1, Nat.zero_le _, Nat.zero_le _⟩, Fr.alloc _ _ _⟩
  · rw [e1]; exact Rep.cons (alloc_at _ _) (Rep.nil _)
  · rw [e1]; exact Nd.cons_iff.2 ⟨fun hb => Bs.nil_iff.1 hb, List.nodup_nil⟩
set_option maxRecDepth 100000 in
set_option maxHeartbeats 4000000 in
theorem dictNone_walk (w : World) :
    Calls Try.prog 14 #[] w fun e w' => e = .returned (.bool true) ∧ Below w.heap.size w w' := by
  refine (callsIn_wide (n := 8)).1 ?_
  refine callsIn_of_wp_marks Try.func14 rfl trivial ?_ rfl
  simp only [Try.ntmps14, List.size_toArray, List.length_cons, List.length_nil, Nat.reduceAdd, Nat.reduceSub, Array.replicate_succ, Array.replicate_zero, List.push_toArray, List.append_toArray, List.nil_append, List.cons_append]
  gi_wp2_with fail
  refine ⟨trivial, (callsIn_wide.2 (wakes_any _)).mono ?_⟩
  rintro e w1 ⟨rfl, hb1⟩
  have hbox : Boxed w1 w.heap.size 4 (.bool false) := (hb1.block _ (by simp)).trans (Boxed.new w 4 (.bool false))
  have hB1 : Below w.heap.size w w1 := ((Below.refl _ w).alloc (Nat.le_refl _) _).trans (hb1.mono (by simp))
  have HBOX := Lib.hid hbox
  have HB1 := Lib.hid hB1
  clear hb1 hbox hB1
  gi_wp2_with fail
  refine ⟨trivial, (callsIn_wide.2 (get0 _ _)).mono ?_⟩
  rintro e w2 ⟨rfl, rfl⟩
  gi_wp2_with fail
  refine ⟨trivial, (callsIn_wide.2 (sample0 _ _)).mono ?_⟩
  rintro e w2 ⟨rfl, rfl⟩
  gi_wp2_with fail
  refine ⟨trivial, (callsIn_wide.2 (sizes0 _)).mono ?_⟩
  rintro e w2 ⟨rfl, rfl⟩
  gi_wp2_with fail
  refine ⟨trivial, (Di.each_in _ 7 trivial rfl _ _).mono ?_⟩
  rintro e w2 ⟨rfl, rfl⟩
  have bE := Boxed.new w1 29 (.pointer none)
  obtain ⟨w2, hw2⟩ : ∃ W, w1.alloc (.cells #[.pointer none] 29) = W := ⟨_, rfl⟩
  have HF2 : Hid (Fr (fun _ => False) w1 w2) := by rw [← hw2]; exact Fr.alloc _ _ _
  rw [hw2] at bE ⊢
  clear hw2
  have hfn := fun b w => func_nil b w
  gi_wp2_with fail
  clear hfn
  refine range_none rfl (by decide) (gf := 67) (lb := #[.pointer (some ⟨w1.heap.size, 0, none⟩)]) rfl trivial (enters_of Try.func67 (by kernel_rfl) rfl)
    (Di.each_none _ (8 - 1) trivial rfl w1.heap.size (Late 0) w2 bE) (fun _ _ h => h) (fun _ => rfl) ?_
  intro D1 V1 hD1 hB3 hK1
  have HK1 := Lib.hid hK1
  have HF3 : Hid (Fr (fun _ => False) w1 V1) := HF2.out.wide (fr_bel2 hB3) (fun _ h => h.elim)
  have HD1 : Hid (w1.heap.size ≤ D1) := Nat.le_trans HF2.out.size hD1
  clear bE hB3 hK1 hD1
  gi_wp2_with fail
  refine ⟨trivial, (callsIn_wide.2 (clear0 _)).mono ?_⟩
  rintro e w' ⟨v3, rfl, rfl⟩
  gi_wp2_with fail
  refine ⟨trivial, (callsIn_wide.2 (len0 _)).mono ?_⟩
  rintro e w' ⟨rfl, rfl⟩
  gi_wp2_with fail
  refine ⟨trivial, (callsIn_wide.2 (set0 _ _ _)).mono ?_⟩
  rintro e w' ⟨rfl, rfl⟩
  gi_wp2_with fail
  refine ⟨trivial, (callsIn_wide.2 (del0 _ _)).mono ?_⟩
  rintro e w' ⟨rfl, rfl⟩
  gi_wp2_with fail
  refine ⟨trivial, (callsIn_wide.2 (bucket0 _ _ _)).mono ?_⟩
  rintro e w' ⟨rfl, rfl⟩
  gi_wp2_with fail
  refine ⟨trivial, (callsIn_wide.2 (new_ds _)).mono ?_⟩
  rintro e w4 ⟨rfl, hd, hf4⟩
  have HD4 := Lib.hid hd
  have HF4 : Hid (Fr (fun _ => False) w1 w4) := HF3.out.wide hf4 (fun _ h => h.elim)
  obtain ⟨d, hde⟩ : ∃ d, V1.heap.size = d := ⟨_, rfl⟩
  have HK4 : Hid (w4.heap[D1]? = some (.deferred (some []))) := (hf4.block D1 (Array.getElem?_eq_some_iff.1 HK1.out).1 (fun h => h)).trans HK1.out
  rw [hde] at HD4 ⊢
  have HDd : Hid (w1.heap.size ≤ d) := by rw [← hde]; exact HF3.out.size
  clear hd hf4 hde
  gi_wp2_with fail
  refine ⟨trivial, (callsIn_wide.2 (Ds.sizes_any _ d _ HD4.out)).mono ?_⟩
  rintro e w5 ⟨rfl, m5, rfl⟩
  have HD5 := Lib.hid (HD4.out.drewN m5)
  have HF5 : Hid (Fr (fun _ => False) w1 (w4.drewN m5)) := HF4.out.thenDrewN m5
  have HK5 : Hid ((w4.drewN m5).heap[D1]? = some (.deferred (some []))) := HK4.out
  obtain ⟨w5, hw5⟩ : ∃ W, w4.drewN m5 = W := ⟨_, rfl⟩
  rw [hw5] at HD5 HF5 HK5 ⊢
  clear hw5
  gi_wp2_with fail
  refine ⟨trivial, (Ds.each_in _ 7 trivial rfl _ _).mono ?_⟩
  rintro e w6 ⟨rfl, rfl⟩
  have bE := Boxed.new w5 61 (.pointer (some ⟨d, 0, none⟩))
  obtain ⟨w6, hw6⟩ : ∃ W, w5.alloc (.cells #[.pointer (some ⟨d, 0, none⟩)] 61) = W := ⟨_, rfl⟩
  have hf6 : Fr (fun _ => False) w5 w6 := by rw [← hw6]; exact Fr.alloc _ _ _
  rw [hw6] at bE ⊢
  have HF6 : Hid (Fr (fun _ => False) w1 w6) := HF5.out.wide hf6 (fun _ h => h.elim)
  have HK6 : Hid (w6.heap[D1]? = some (.deferred (some []))) := (hf6.block D1 (Array.getElem?_eq_some_iff.1 HK5.out).1 (fun h => h)).trans HK5.out
  have HD6 := Lib.hid (HD5.out.fr hf6 (fun _ _ h => h))
  clear hw6 hf6
  gi_wp2_with fail
  refine range_none rfl (by decide) (gf := 86) (lb := #[.pointer (some ⟨w5.heap.size, 0, none⟩)]) rfl trivial (enters_of Try.func86 (by kernel_rfl) rfl)
    (Ds.each_stops _ (8 - 1) trivial trivial trivial rfl (by decide) w5.heap.size d _ 0 w6 (Nat.zero_le _) ⟨HD6.out, bE⟩ (fun e he => by cases he) (by show 0 ≤ _; omega)) (fun pre x h => by have := h.length_le; simp [opn] at this) (fun _ => rfl) ?_
  intro D2 V2 hD2 hB7 hK2
  have HK2 := Lib.hid hK2
  have hf7 := fr_bel2 hB7
  have HF7 : Hid (Fr (fun _ => False) w1 V2) := HF6.out.wide hf7 (fun _ h => h.elim)
  have HK7 : Hid (V2.heap[D1]? = some (.deferred (some []))) := (hf7.block D1 (Array.getElem?_eq_some_iff.1 HK6.out).1 (fun h => h)).trans HK6.out
  have HD7 := Lib.hid (HD6.out.fr hf7 (fun _ _ h => h))
  have HD2 : Hid (w1.heap.size ≤ D2) := Nat.le_trans HF6.out.size hD2
  have HNE : Hid (D1 ≠ D2) := fun e => by subst e; have := (Array.getElem?_eq_some_iff.1 HK6.out).1; omega
  clear bE hB7 hK2 hD2 hf7
  gi_wp2_with fail
  refine ⟨trivial, (callsIn_wide.2 (Ds.bucket_any V2 d _ 0 0 HD7.out (by show 0 ≤ _; omega))).mono ?_⟩
  rintro e w8 hq
  obtain ⟨v8, rfl, hr8, hb8⟩ := hq
  obtain ⟨a8, c8, rfl⟩ := owns_slice hr8
  have hf8 := fr_bel2 hb8
  have HF8 : Hid (Fr (fun _ => False) w1 w8) := HF7.out.wide hf8 (fun _ h => h.elim)
  have HK8 : Hid (w8.heap[D1]? = some (.deferred (some []))) := (hf8.block D1 (Array.getElem?_eq_some_iff.1 HK7.out).1 (fun h => h)).trans HK7.out
  have HK8b : Hid (w8.heap[D2]? = some (.deferred (some []))) := (hf8.block D2 (Array.getElem?_eq_some_iff.1 HK2.out).1 (fun h => h)).trans HK2.out
  have HD8 := Lib.hid (HD7.out.fr hf8 (fun _ _ h => h))
  have hz : (Ds.bucketK ⟨1, 0, [], 0, [], 0, 0⟩ 0 0).length = 0 := by rfl
  rw [hz]
  clear hr8 hb8 hf8 hz
  gi_wp2_with fail
  refine ⟨trivial, (callsIn_wide.2 (Ds.set_any w8 d _ _ _ (by decide) HD8.out (by show 0 < _; omega))).mono ?_⟩
  rintro e w9 ⟨rfl, t9, b9, ht⟩
  have hk : (!hasK (tb { seed := 1, told := 0, old := [], tyoung := 0, young := [], at_ := 0, n := 0 }) ({ data := #[] } : ByteArray)) = true := rfl
  rw [hk]
  have e1 : Ds.dictL d ⟨1, 0, [], 0, [], 0, 0⟩ = [(d, fieldsO 123 ⟨1, 0, [], 0, [], 0, 0⟩)] := by unfold Ds.dictL dictO; rw [tabO_nil]; rfl
  have hfr : Fr (fun k => k = d) w8 w9 := ht.fr.mono (fun i hi _ => by
    rw [e1, Bs.cons_iff] at hi
    exact hi.elim id (fun h => absurd h (fun hb => Bs.nil_iff.1 hb)))
  have hdc := HD8.out.rep.head
  have hn1 : D1 ≠ d := fun e => by subst e; rw [HK8.out] at hdc; cases hdc
  have hn2 : D2 ≠ d := fun e => by subst e; rw [HK8b.out] at hdc; cases hdc
  have HK9 : Hid (w9.heap[D1]? = some (.deferred (some []))) := (hfr.block D1 (Array.getElem?_eq_some_iff.1 HK8.out).1 hn1).trans HK8.out
  have HK9b : Hid (w9.heap[D2]? = some (.deferred (some []))) := (hfr.block D2 (Array.getElem?_eq_some_iff.1 HK8b.out).1 hn2).trans HK8b.out
  have HF9 : Hid (Fr (fun k => w1.heap.size ≤ k) w1 w9) := (HF8.out.mono (T := fun k => w1.heap.size ≤ k) (fun _ h => h.elim)).wide hfr (fun i hi => .inl (by subst hi; exact HDd.out))
  have hlt := HBOX.out.lt
  have hbx : Boxed w9 w.heap.size 4 (.bool false) := (HF9.out.block _ hlt (by omega)).trans HBOX.out
  have hc9 := hbx.cell
  have hf9 := hbx.frozen
  clear hk e1 hfr hdc hn1 hn2 ht hbx
  gi_wp2
  have hK1' : (w9.setCell ⟨w.heap.size, 0, none⟩ (.bool true)).heap[D1]? = some (.deferred (some [])) := (KeepsOthers.setCell w9 ⟨w.heap.size, 0, none⟩ (.bool true)).same D1 _ HK9.out rfl
  have hK2' : (w9.setCell ⟨w.heap.size, 0, none⟩ (.bool true)).heap[D2]? = some (.deferred (some [])) := (KeepsOthers.setCell w9 ⟨w.heap.size, 0, none⟩ (.bool true)).same D2 _ HK9b.out rfl
  have hK3' : ((w9.setCell ⟨w.heap.size, 0, none⟩ (.bool true)).putObj D2 (.deferred none)).heap[D1]? = some (.deferred (some [])) := (World.putObj_heap_other HNE.out).trans hK1'
  refine ⟨by simp, .inl ⟨_, _, rfl, run_takeDeferred hK2', ⟨by simp, .inl ⟨_, _, rfl, run_takeDeferred hK3', ?_⟩⟩⟩⟩
  have hc5 := cell_kept (World.cell?_setCell_same' w9 ⟨w.heap.size, 0, none⟩ (.bool true) (by rw [hc9]; rfl)) (grownBy_putObj' _ D2 (.deferred none)) (fun r e => by cases e; exact ⟨_, hK2', rfl⟩)
  have hc6 := cell_kept hc5 (grownBy_putObj' _ D1 (.deferred none)) (fun r e => by cases e; exact ⟨_, hK3', rfl⟩)
  refine ⟨.bool true, ?_, rfl, ?_⟩
  · simp [results, Try.f14, go_sem, hc6]
  · have hz := HB1.out.size
    have b9 : Below w.heap.size w w9 := HB1.out.trans (HF9.out.below hz (fun i hi => Nat.le_trans hz hi))
    have z1 : w.heap.size ≤ D1 := Nat.le_trans hz HD1.out
    have z2 : w.heap.size ≤ D2 := Nat.le_trans hz HD2.out
    exact ((b9.setCell (p := ⟨w.heap.size, 0, none⟩) (Nat.le_refl _) _).grown (grownBy_putObj' _ D2 (.deferred none)) (by have := b9.size; simp; omega) (fun k e => by cases e; exact z2)).grown (grownBy_putObj' _ D1 (.deferred none)) (by have := b9.size; have := (grownBy_putObj' (w9.setCell ⟨w.heap.size, 0, none⟩ (.bool true)) D2 (.deferred none)).size; simp at this ⊢; omega) (fun k e => by cases e; exact z1)
set_option maxRecDepth 100000 in
theorem dictNone_lifted (os : Os) (started : os.Started) (H : Type) (enc : TypeId × Value → H) :
    ReturnsInHanded {} Try.checked os 14 .any (Rows.dictNoneSpec.pre6 enc Try.prog Try.f14 Rows.dictNoneRow.domain false) (Rows.dictNoneSpec.post enc Try.prog Try.f14 false true false false) := by
  refine returnsInHanded_of_change_sized (C := Try.checked) own started (by kernel_rfl) Try.func14
    (ChangeSpec.witness6 (enc := enc) (C := Try.checked) false ⟨#[], #[], []⟩ 8 (by kernel_rfl) (by kernel_rfl) (by kernel_rfl) (by kernel_rfl)) ?_
  intro W base args ds gs before hval0 hW hcnd hsz0 _
  have hval : ∀ (j : Nat) t v, Try.f14.params[j]? = some t → args[j]? = some v → Value.okWide Try.prog W .any base t v := hval0
  have hW' := hW
  obtain ⟨p, q, hA0, hV, rfl, hfz, hnd⟩ := hW
  have hA : DataW.TrodAll enc Try.prog W 0 (fun _ => true) true Try.f14.params.toList args.toList ds p := hA0
  rw [Try.params14] at hA hval
  obtain ⟨hargs, rfl, rfl⟩ := trodAll_nil hA
  obtain rfl : args = #[] := by cases args; simp_all
  obtain ⟨rfl, rfl⟩ := trodVars_none hV
  clear hsz0
  clear hA0 hval0
  refine (dictNone_walk W ).mono fun e W' ⟨he, bel⟩ => ?_
  subst he
  exact ⟨_, rfl, law_post laidOut Try.underlying4 (by kernel_rfl) rfl (by kernel_rfl) hW' rfl bel⟩

theorem dictNone_holds : Rows.DictNoneSaid :=
  OpenClaim.holds_of_wide 14 Try.f14 rfl rfl rfl rfl rfl rfl rfl ⟨rfl, rfl, rfl, rfl, rfl⟩ rfl rfl rfl rfl rfl (by kernel_rfl) Try.func14 (by kernel_rfl)
    (of_decide_eq_true (by kernel_rfl)) (by unfold Func.isWrapper; rw [if_neg (of_decide_eq_false (by kernel_rfl))]; exact ⟨rfl, rfl⟩)
    (fun os started H enc _ => dictNone_lifted os started H enc)
end Go.Proofs.Ytkecipdonamjaaa
