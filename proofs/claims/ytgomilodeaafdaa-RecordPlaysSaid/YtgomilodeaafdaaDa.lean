/- The document's record. No condition. -/
import Derived.Test.YtgomilodeaafdaaBr
import Derived.Test.YtgomilodeaafdaaCb
import Derived.Test.YtgomilodeaafdaaBn
namespace Go.Proofs.Ytgomilodeaafdaa
open Go.RowKit
/-- so many fields are less than the text -/
structure PlaceP (l : List Pr) (key : ByteArray) (i : Nat) : Prop where
  le : i ≤ l.length
  less : ∀ x ∈ l.take i, x.1.toList < key.toList
  not : ∀ x, l[i]? = some x → ¬ x.1.toList < key.toList
/-- is the field at its place? -/
def isAt (l : List Pr) (key : ByteArray) (i : Nat) : Bool := decide ((l[i]?).map (·.1) = some key)
section
variable {l A : List Pr} {key s was : ByteArray} {i : Nat}
theorem isAt_some : isAt l key i = true ↔ ∃ s, l[i]? = some (key, s) := by
  unfold isAt
  rw [decide_eq_true_eq, Option.map_eq_some_iff]
  constructor
  · rintro ⟨x, h, rfl⟩; exact ⟨x.2, h⟩
  · rintro ⟨s, h⟩; exact ⟨_, h, rfl⟩
theorem place_inP (hs : l.Pairwise ltP) (h : PlaceP l key i) : isAt l key i = true ↔ key ∈ l.map (·.1) := by
  rw [isAt_some]
  refine ⟨fun ⟨s, e⟩ => List.mem_map.2 ⟨_, List.mem_of_getElem? e, rfl⟩, fun hm => ?_⟩
  obtain ⟨x, hx, rfl⟩ := List.mem_map.1 hm
  obtain ⟨j, hj, rfl⟩ := List.getElem_of_mem hx
  by_cases h1 : j < i
  · exact absurd (h.less l[j] (List.mem_take_iff_getElem.2 ⟨j, by omega, rfl⟩)) (List.lt_irrefl _)
  · by_cases h2 : i < j
    · have h3 := List.pairwise_iff_getElem.1 hs i j (by omega) hj h2
      exact absurd h3 (h.not _ (List.getElem?_eq_getElem (by omega)))
    · obtain rfl : i = j := by omega
      exact ⟨(l[i]).2, List.getElem?_eq_getElem hj⟩
theorem place_insP (s : ByteArray) (hs : l.Pairwise ltP) (h : PlaceP l key i) (hn : key ∉ l.map (·.1)) : (l.take i ++ (key, s) :: l.drop i).Pairwise ltP ∧ (l.take i ++ (key, s) :: l.drop i).Perm (l ++ [(key, s)]) := by
  have hs2 := hs
  rw [← List.take_append_drop i l, List.pairwise_append] at hs2
  obtain ⟨h1, h2, h3⟩ := hs2
  refine ⟨?_, ?_⟩
  · rw [List.pairwise_append, List.pairwise_cons]
    refine ⟨h1, ⟨fun x hx => ?_, h2⟩, fun a ha b hb => ?_⟩
    · cases hd : l.drop i with
      | nil => rw [hd] at hx; cases hx
      | cons y r =>
        have hy : l[i]? = some y := by
          have := congrArg (·[0]?) hd
          simpa using this
        have hny := h.not y hy
        have hyk : y.1 ≠ key := fun e => hn (List.mem_map.2 ⟨y, List.mem_of_getElem? hy, e⟩)
        have hlt : key.toList < y.1.toList := by
          by_cases h2 : key.toList < y.1.toList
          · exact h2
          · exact absurd (key_eq hny h2) hyk
        rw [hd] at hx h2
        rcases List.mem_cons.1 hx with rfl | hx
        · exact hlt
        · exact List.lt_trans hlt ((List.pairwise_cons.1 h2).1 x hx)
    · rcases List.mem_cons.1 hb with rfl | hb
      · exact h.less a ha
      · exact h3 a ha b hb
  · have h4 : (l.take i ++ (key, s) :: l.drop i).Perm ((key, s) :: (l.take i ++ l.drop i)) := List.perm_middle
    rw [List.take_append_drop] at h4
    exact h4.trans (List.perm_append_singleton _ l).symm
theorem place_delP {x : Pr} (hs : l.Pairwise ltP) (hk : l[i]? = some x) : (l.take i ++ l.drop (i + 1)).Pairwise ltP ∧ l.Perm (x :: (l.take i ++ l.drop (i + 1))) := by
  have he : l.take i ++ l.drop (i + 1) = l.eraseIdx i := (List.eraseIdx_eq_take_drop_succ l i).symm
  rw [he]
  exact ⟨hs.sublist (List.eraseIdx_sublist l i), permG_erase l i x hk⟩
/-- one text under each field -/
theorem uniqP (hs : l.Pairwise ltP) {a b : ByteArray} (h1 : (key, a) ∈ l) (h2 : (key, b) ∈ l) : a = b := by
  obtain ⟨i, hi, e1⟩ := List.getElem_of_mem h1
  obtain ⟨j, hj, e2⟩ := List.getElem_of_mem h2
  by_cases hij : i < j
  · have := List.pairwise_iff_getElem.1 hs i j hi hj hij
    rw [e1, e2] at this
    exact absurd this (List.lt_irrefl _)
  · by_cases hji : j < i
    · have := List.pairwise_iff_getElem.1 hs j i hj hi hji
      rw [e1, e2] at this
      exact absurd this (List.lt_irrefl _)
    · obtain rfl : i = j := by omega
      rw [e1] at e2
      exact congrArg Prod.snd e2
theorem place_setP (hs : l.Pairwise ltP) (hk : l[i]? = some (key, was)) (s : ByteArray) : (l.set i (key, s)).Pairwise ltP := by
  obtain ⟨hi, he⟩ := List.getElem?_eq_some_iff.1 hk
  have hkeys : ∀ j (h : j < (l.set i (key, s)).length), ((l.set i (key, s))[j]).1 = (l[j]'(by simpa using h)).1 := fun j h => by
    rw [List.getElem_set]
    split
    · rename_i e; subst e; rw [he]
    · rfl
  rw [List.pairwise_iff_getElem]
  intro a b ha hb hab
  have h1 := List.pairwise_iff_getElem.1 hs a b (by simpa using ha) (by simpa using hb) hab
  unfold ltP at h1 ⊢
  rw [hkeys a ha, hkeys b hb]
  exact h1
/-- the pairs in the order in which they came, and the rising ones -/
theorem set_permP (hs : l.Pairwise ltP) (hp : l.Perm A) (hk : l[i]? = some (key, was)) {j : Nat} (ha : fdG key A = some j) (s : ByteArray) : (l.set i (key, s)).Perm (A.set j (key, s)) := by
  obtain ⟨was', hw⟩ := fdG_some ha
  have e : was = was' := uniqP hs (List.mem_of_getElem? hk) (hp.mem_iff.2 (List.mem_of_getElem? hw))
  subst e
  have h1 := permG_erase l i _ hk
  have h2 := permG_erase A j _ hw
  have h3 : (l.eraseIdx i).Perm (A.eraseIdx j) := ((h1.symm.trans hp).trans h2).cons_inv
  exact ((permG_set l i _ (List.getElem?_eq_some_iff.1 hk).1).trans (h3.cons _)).trans (permG_set A j _ (fdG_lt ha)).symm
theorem del_permP (hs : l.Pairwise ltP) (hp : l.Perm A) (hk : l[i]? = some (key, was)) {j : Nat} (ha : fdG key A = some j) : (l.take i ++ l.drop (i + 1)).Perm (A.eraseIdx j) := by
  obtain ⟨was', hw⟩ := fdG_some ha
  have e : was = was' := uniqP hs (List.mem_of_getElem? hk) (hp.mem_iff.2 (List.mem_of_getElem? hw))
  subst e
  have h2 := permG_erase A j _ hw
  exact (((place_delP hs hk).2.symm.trans hp).trans h2).cons_inv
theorem place_boolP (hs : l.Pairwise ltP) (hp : l.Perm A) (h : PlaceP l key i) : isAt l key i = (fdG key A).isSome := by
  cases ha : fdG key A with
  | some j =>
    obtain ⟨w', hw⟩ := fdG_some ha
    rw [(place_inP hs h).2 ((hp.map (·.1)).mem_iff.2 (List.mem_map.2 ⟨_, List.mem_of_getElem? hw, rfl⟩))]
    rfl
  | none =>
    cases hb : isAt l key i with
    | false => rfl
    | true =>
      have hm := (hp.map (·.1)).mem_iff.1 ((place_inP hs h).1 hb)
      obtain ⟨x, hx, hk⟩ := List.mem_map.1 hm
      exact absurd hk (fdG_none ha x hx)
theorem take_flat (i : Nat) : ∀ (l : List Pr), (l.flatMap encP).take (i * 2) = (l.take i).flatMap encP := by
  induction i with
  | zero => intro l; simp
  | succ i ih =>
    intro l
    cases l with
    | nil => simp
    | cons x l =>
      have e : (i + 1) * 2 = i * 2 + 1 + 1 := by omega
      simp only [List.flatMap_cons, encP, List.cons_append, List.nil_append, e, List.take_succ_cons]
      rw [ih l]
theorem drop_flat (i : Nat) : ∀ (l : List Pr), (l.flatMap encP).drop (i * 2) = (l.drop i).flatMap encP := by
  induction i with
  | zero => intro l; simp
  | succ i ih =>
    intro l
    cases l with
    | nil => simp
    | cons x l =>
      have e : (i + 1) * 2 = i * 2 + 1 + 1 := by omega
      simp only [List.flatMap_cons, encP, List.cons_append, List.nil_append, e, List.drop_succ_cons]
      rw [ih l]
/-- the pairs as the document's dict has them -/
def L0P (A : List Pr) : List (ByteArray × Int) := A.map fun x => (x.1, (0 : Int))
theorem L0P_len (A : List Pr) : (L0P A).length = A.length := List.length_map ..
theorem L0P_keys (A : List Pr) : (L0P A).map (·.1) = A.map (·.1) := by unfold L0P; rw [List.map_map]; rfl
theorem fdG_L0P (key : ByteArray) (A : List Pr) : fdG key (L0P A) = fdG key A := by
  induction A with
  | nil => rfl
  | cons x A ih =>
    show (if x.1 = key then some 0 else (fdG key (L0P A)).map (· + 1)) = (if x.1 = key then some 0 else (fdG key A).map (· + 1))
    rw [ih]
theorem L0P_set (key s : ByteArray) (A : List Pr) : setG (L0P A) key 0 = L0P (setG A key s) := by
  unfold setG
  rw [fdG_L0P]
  cases fdG key A with
  | some i => show (L0P A).set i _ = L0P (A.set i _); unfold L0P; rw [List.map_set]
  | none => show L0P A ++ _ = L0P (A ++ _); unfold L0P; rw [List.map_append]; rfl
theorem eraseIdx_mapP {α β : Type} (f : α → β) : ∀ (l : List α) (i : Nat), (l.eraseIdx i).map f = (l.map f).eraseIdx i
  | [], _ => rfl
  | _ :: _, 0 => rfl
  | x :: l, i + 1 => by simp only [List.eraseIdx_cons_succ, List.map_cons]; rw [eraseIdx_mapP f l i]
theorem L0P_del (key : ByteArray) (A : List Pr) : delG (L0P A) key = L0P (delG A key) := by
  unfold delG
  rw [fdG_L0P]
  cases fdG key A with
  | none => rfl
  | some i => show (L0P A).eraseIdx i = L0P (A.eraseIdx i); exact (eraseIdx_mapP _ A i).symm
end
end Go.Proofs.Ytgomilodeaafdaa
namespace Go.Proofs.Ytgomilodeaafdaa
open Go.RowKit Ds
/-- the document's record: its pairs in l, and a dict of the same fields -/
structure RrX (w : World) (B mr : Nat) (F : Nat → Prop) (N : NM) (L : Pl) (l : List Pr) (p : Nat) (Fd : Nat → Prop) (X : RB) (av : Value) : Prop where
  blk : w.heap[mr]? = some (.cells #[.int .u64 (wd N.seed), av, .pointer (some ⟨p, 0, none⟩)] 168 (0, 0))
  fm : F mr
  nm : ¬ Fd mr
  d : RefD w B p Fd N L X
  fd : ∀ k, Fd k → F k
  row : w.ownsRow B 51 2 av l.length (l.flatMap encP)
  fa : ∀ g, av.ownBlock = some g → F g
  na : ∀ g, av.ownBlock = some g → ¬ Fd g
  lt : ∀ k, F k → B ≤ k ∧ k < w.heap.size
section
variable {w w' : World} {B B' mr p : Nat} {F Fd T : Nat → Prop} {N N' : NM} {L L' : Pl} {l l' : List Pr} {X : RB} {av : Value}
theorem RrX.other (h : RrX w B mr F N L l p Fd X av) (hf : Fr T w w') (hd : ∀ k, F k → ¬ T k) : RrX w' B mr F N L l p Fd X av :=
  ⟨(hf.block mr (h.lt mr h.fm).2 (hd mr h.fm)).trans h.blk, h.fm, h.nm, h.d.other hf (fun k hk => hd k (h.fd k hk)), h.fd, ow_fr h.row hf (fun g hg => hd g (h.fa g hg)), h.fa, h.na, fun k hk => ⟨(h.lt k hk).1, Nat.lt_of_lt_of_le (h.lt k hk).2 hf.size⟩⟩
theorem RrX.quiet (h : RrX w B mr F N L l p Fd X av) (hf : Fr (fun _ => False) w w') : RrX w' B mr F N L l p Fd X av := h.other hf (fun _ _ h => h)
theorem RrX.base (h : RrX w B mr F N L l p Fd X av) (hb : B' ≤ B) : RrX w B' mr F N L l p Fd X av :=
  ⟨h.blk, h.fm, h.nm, h.d.base hb, h.fd, ow_base h.row hb, h.fa, h.na, fun k hk => ⟨Nat.le_trans hb (h.lt k hk).1, (h.lt k hk).2⟩⟩
theorem RrX.wide {F' : Nat → Prop} (h : RrX w B mr F N L l p Fd X av) (hF : ∀ k, F k → F' k) (hl : ∀ k, F' k → B ≤ k ∧ k < w.heap.size) : RrX w B mr F' N L l p Fd X av :=
  ⟨h.blk, hF mr h.fm, h.nm, h.d, fun k hk => hF k (h.fd k hk), h.row, fun g hg => hF g (h.fa g hg), h.na, hl⟩
theorem RrX.cells (h : RrX w B mr F N L l p Fd X av) : w.cell? ⟨mr, 0, none⟩ = some (.int .u64 (wd N.seed)) ∧ w.cell? ⟨mr, 1, none⟩ = some av ∧ w.cell? ⟨mr, 2, none⟩ = some (.pointer (some ⟨p, 0, none⟩)) :=
  ⟨cell_of_blk h.blk 0, cell_of_blk h.blk 1, cell_of_blk h.blk 2⟩
theorem RrX.bm (h : RrX w B mr F N L l p Fd X av) : BT 168 w mr := ⟨_, h.blk⟩
/-- its dict is turned -/
theorem RrX.turn (h : RrX w B mr F N L l p Fd X av) (hB : B ≤ w.heap.size) (ht : RdTo w B p Fd N' L' w') (hs : N'.seed = N.seed) : ∃ X', RrX w' B mr (Grew F w w') N' L' l p (Grew Fd w w') X' av ∧ Fr F w w' := by
  obtain ⟨X', hd, hf⟩ := ht
  have hF : Fr F w w' := hf.mono (fun i hi _ => h.fd i hi)
  refine ⟨X', ⟨?_, .inl h.fm, fun e => ?_, hd, fun k hk => hk.imp (h.fd k) id, ow_fr h.row hf (fun g hg => h.na g hg), fun g hg => .inl (h.fa g hg), fun g hg e => ?_, fun k hk => ?_⟩, hF⟩
  · rw [hs]; exact (hf.block mr (h.lt mr h.fm).2 h.nm).trans h.blk
  · rcases e with e | e
    · exact h.nm e
    · have := (h.lt mr h.fm).2; omega
  · rcases e with e | e
    · exact h.na g hg e
    · have := (h.lt g (h.fa g hg)).2; omega
  · rcases hk with hk | hk
    · exact ⟨(h.lt k hk).1, Nat.lt_of_lt_of_le (h.lt k hk).2 hF.size⟩
    · exact ⟨Nat.le_trans hB hk.1, hk.2⟩
/-- other pairs, in memory newer than b -/
theorem RrX.all (h : RrX w B mr F N L l p Fd X av) {b : Nat} (hb : B ≤ b) (hF : ∀ k, F k → k < b) {av' : Value} (hr : w.ownsRow b 51 2 av' l'.length (l'.flatMap encP)) :
    RrX (w.setCell ⟨mr, 1, none⟩ av') B mr (fun k => F k ∨ b ≤ k ∧ k < w.heap.size) N L l' p Fd X av' := by
  have hf := Fr.setCell w ⟨mr, 1, none⟩ av'
  refine ⟨?_, .inl h.fm, h.nm, h.d.other hf (fun k hk e => h.nm (by rw [← show k = mr from e]; exact hk)), fun k hk => .inl (h.fd k hk), ?_, fun g hg => .inr ⟨(own_blk hr hg).1, (own_blk hr hg).2.1⟩, fun g hg e => ?_, fun k hk => ?_⟩
  · rw [heap_setCell_same w mr 1 _ _ av' h.blk]
    rfl
  · exact ow_base (ow_fr hr hf (fun g hg e => (own_blk hr hg).2.2.ne h.bm (by decide) e)) hb
  · have := (own_blk hr hg).1
    have := hF g (h.fd g e)
    omega
  · rw [World.size_setCell]
    rcases hk with hk | hk
    · exact h.lt k hk
    · exact ⟨by omega, hk.2⟩
end
theorem rrNew_any (seed : UInt64) (w : World) : Calls Try.prog 55 #[.int .u64 (wd seed)] w fun e w' =>
    ∃ mr p Fd X, e = .returned (.pointer (some ⟨mr, 0, none⟩)) ∧ RrX w' w.heap.size mr (fun k => w.heap.size ≤ k ∧ k < w'.heap.size) ⟨seed, [], [], 0⟩ [] [] p Fd X (.slice none 0 0) ∧ Fr (fun _ => False) w w' := by
  have HN := fun w => Lib.hid (rdNew_any seed w)
  go_enter Try.func55, Try.ntmps55
  go_wp2_with (refine (HN _).out.mono ?_; rintro e w1 ⟨rfl, rfl⟩)
  go_ret
  have h0 := rd_new seed w
  refine ⟨w.heap.size + 1, w.heap.size, _, _, rfl, ⟨?_, ⟨by omega, by simp⟩, fun e => by have h1 : w.heap.size + 1 = w.heap.size := e; omega, h0.other (Fr.alloc (fun _ => False) _ _) (fun _ _ h => h), fun k hk => ?_, World.ownsRow_nil _ _ _ _, fun g hg => (by cases hg), fun g hg => (by cases hg), fun k hk => hk⟩, ?_⟩
  · have h := alloc_new (w.alloc (rdO seed 0 ⟨0, [], 0, [], .slice none 0 0, .slice none 0 0⟩)) (.cells #[.int .u64 (wd seed), .slice none 0 0, .pointer (some ⟨w.heap.size, 0, none⟩)] 168)
    rw [World.size_alloc] at h
    exact h
  · have h1 : k = w.heap.size := hk
    subst h1
    exact ⟨Nat.le_refl _, by simp; omega⟩
  · exact (Fr.alloc (fun _ => False) w _).trans (Fr.alloc (fun _ => False) _ _) (fun _ h _ => h)
section
variable (w : World) (B mr p : Nat) (F Fd : Nat → Prop) (N : NM) (L : Pl) (l : List Pr) (X : RB) (av : Value) (key : ByteArray)
theorem rrLen_any (h : RrX w B mr F N L l p Fd X av) : Calls Try.prog 62 #[.pointer (some ⟨mr, 0, none⟩)] w fun e w' => e = .returned (.int .i64 l.length) ∧ w = w' := by
  have c1 := h.cells.2.1
  obtain ⟨a, c, rfl⟩ := ow_sliceN h.row
  clear h
  go_enter Try.func62, Try.ntmps62
  go_wp2
  go_ret
  exact ⟨rfl, rfl⟩
/-- what place tells -/
def PpPost (l : List Pr) (key : ByteArray) (w : World) (e : Ending) (w' : World) : Prop := ∃ i : Nat, PlaceP l key i ∧ e = .returned (.tuple #[.int .i64 i, .bool (isAt l key i)]) ∧ ∃ m, w' = w.drewN m
set_option maxHeartbeats 1000000 in
theorem rrPlace_any (h : RrX w B mr F N L l p Fd X av) :
    Calls Try.prog 178 #[.pointer (some ⟨mr, 0, none⟩), .string key] w (PpPost l key w) := by
  have c1 := h.cells.2.1
  have hr := RdC.of_owns h.row
  obtain ⟨a, c, rfl⟩ := ow_sliceN h.row
  have hlm := hr.len
  unfold maxLen at hlm
  have HR := Lib.hid hr
  clear h hr
  go_enter Try.func178, Try.ntmps178
  go_wp2_with fail
  go_loop [6] (fun i => ∃ k : Nat, k ≤ l.length ∧ i = .int .i64 k ∧ Hid (∀ x ∈ l.take k, x.1.toList < key.toList)) (fun i => l.length - (intOf i).toNat)
  case atStart => exact ⟨0, Nat.zero_le _, rfl, fun x hx => by simp at hx⟩
  case round =>
    obtain ⟨k, hk, rfl, HN⟩ := hrel
    by_cases hlt : k < l.length
    · obtain ⟨g, off, rfl, hc, -⟩ := pr_at HR.out k hlt
      obtain ⟨x, hx⟩ : ∃ x, l[k] = x := ⟨_, rfl⟩
      rw [hx] at hc
      have hxk : l[k]? = some x := by rw [List.getElem?_eq_getElem hlt, hx]
      have HX := Lib.hid hxk
      have b0 : (0 : Int) ≤ (k : Int) := by omega
      have b1 : (k : Int) < (l.length : Int) := by omega
      have htk : l.take (k + 1) = l.take k ++ [x] := by rw [List.take_succ_eq_append_getElem hlt, hx]
      have HTK := Lib.hid htk
      clear hx hxk htk
      obtain ⟨y, hy⟩ : ∃ y, x.1 = y := ⟨_, rfl⟩
      rw [hy] at hc
      have HY := Lib.hid hy
      clear hy
      by_cases hle : y.toList < key.toList
      · have k1 : Op.bytesLess y.toList key.toList = true := by rw [bytesLess_eq]; exact decide_eq_true hle
        have HLE := Lib.hid hle
        clear hle
        go_wp2_with fail
        go_round
        case rel =>
          refine ⟨k + 1, by omega, by go_num, fun y hy => ?_⟩
          rw [HTK.out] at hy
          rcases List.mem_append.1 hy with hy | hy
          · exact HN.out y hy
          · rw [List.mem_singleton.1 hy, HY.out]; exact HLE.out
        case measure => simp [intOf]; omega
      · have k1 : Op.bytesLess y.toList key.toList = false := by rw [bytesLess_eq]; exact decide_eq_false hle
        have HLE := Lib.hid hle
        clear hle
        obtain ⟨b, hb⟩ : ∃ b, (y.toList == key.toList) = b := ⟨_, rfl⟩
        have HB : Hid (isAt l key k = b) := by
          show _ = _
          unfold isAt
          rw [← hb, str_beq, HX.out, Option.map_some, HY.out]
          exact decide_eq_decide.2 ⟨fun e => Option.some.inj e, fun e => congrArg some e⟩
        go_upto_region 5 with (fail)
        go_quiet (fail)
        go_wp2_with fail
        go_ret2
        exact ⟨k, ⟨by omega, HN.out, fun y hy => by rw [HX.out] at hy; cases hy; rw [HY.out]; exact HLE.out⟩, by rw [HB.out]; rfl, nq, rfl⟩
    · obtain rfl : k = l.length := by omega
      go_wp2_with fail
      go_ret2
      refine ⟨l.length, ⟨Nat.le_refl _, HN.out, fun y hy => ?_⟩, ?_, 0, rfl⟩
      · rw [List.getElem?_eq_none (Nat.le_refl _)] at hy
        cases hy
      · unfold isAt
        rw [List.getElem?_eq_none (Nat.le_refl _)]
        rfl
set_option maxRecDepth 100000 in
set_option maxHeartbeats 1000000 in
theorem rrPairs_any (h : RrX w B mr F N L l p Fd X av) (hl : l.length ≤ 2199023255552) :
    Calls Try.prog 60 #[.pointer (some ⟨mr, 0, none⟩)] w fun e w' => ∃ v, e = .returned v ∧ RowP w.heap.size w' v l ∧ Fr (fun _ => False) w w' := by
  have hlt := (h.lt mr h.fm).2
  have c1 : (w.alloc (.cells #[] 51)).cell? ⟨mr, 1, none⟩ = some av := (Fr.alloc (fun _ => False) w _).cell h.cells.2.1 (fun h => h)
  have HR := Lib.hid (RdC.of_owns h.row)
  obtain ⟨a, c, rfl⟩ := ow_sliceN h.row
  obtain ⟨i0, hi, hz0, hz1, hz2⟩ := info_parts infoPr
  have HL : Hid ((w.alloc (.cells #[] 51)).ownsRow w.heap.size 51 2 (.slice (some ⟨w.heap.size, 0, none⟩) 0 0) 0 []) := World.ownsRow_lit w #[] 0 (Nat.le_refl _) (by decide) rfl
  have HB : Hid (Below w.heap.size w (w.alloc (.cells #[] 51))) := (Below.refl _ _).alloc (Nat.le_refl _) _
  have HI := Lib.hid hi
  have HZ0 := Lib.hid hz0
  have HZ1 := Lib.hid hz1
  have HZ2 := Lib.hid hz2
  clear h hi hz0 hz1 hz2
  go_enter Try.func60, Try.ntmps60
  go_wp2_with (at_builtin; refine wpl_append2 rfl (.tmp 5) (.tmp 9) 47 rfl w.heap.size 51 i0 (.agg #[.string ⟨#[]⟩, .string ⟨#[]⟩]) 2 32 Try.underlying47 HI.out HZ0.out HZ1.out HZ2.out rfl (by decide) _ 0 _ rfl HL.out (.slice a l.length c) l.length _ rfl (HR.out.below HB.out) (onesP l) (by unfold maxLen; omega) (by omega) HB.out.size ?_; intro v' w8 hown hgrow hap; have HO8 := Lib.hid hown; have HG8 := Lib.hid hgrow; clear hown hgrow hap)
  go_ret
  have hbe := HB.out.trans ((Fr.of_grownBy HG8.out).below HB.out.size (fun g hg => (own_blk HL.out hg).1))
  exact ⟨_, rfl, rowP_app (S := []) HO8.out, fr_bel0 hbe⟩
set_option maxRecDepth 100000 in
set_option maxHeartbeats 1000000 in
theorem rrSample_any (h : RrX w B mr F N L l p Fd X av) (n : UInt64) :
    Calls Try.prog 128 #[.pointer (some ⟨mr, 0, none⟩), .int .u64 (wd n)] w fun e w' => e = .returned (sampV l n) ∧ Fr (fun _ => False) w w' := by
  have c1 := h.cells.2.1
  have hr := RdC.of_owns h.row
  obtain ⟨a, c, rfl⟩ := ow_sliceN h.row
  have hlm := hr.len
  unfold maxLen at hlm
  have HR := Lib.hid hr
  clear h hr
  by_cases h0 : l.length = 0
  · have hl0 := List.length_eq_zero_iff.1 h0
    subst hl0
    have hs : sampV ([] : List Pr) n = .tuple #[.string ⟨#[]⟩, .bool false] := by unfold sampV; rw [if_pos rfl]
    rw [hs]
    clear hs h0
    go_enter Try.func128, Try.ntmps128
    go_wp2_with fail
    go_ret2
    exact ⟨rfl, Fr.refl _ _⟩
  · have hpos : 0 < l.length := Nat.pos_of_ne_zero h0
    have g0 : ((l.length : Int) == 0) = false := beq_eq_false_iff_ne.2 (by omega)
    obtain ⟨k, hk⟩ : ∃ k, n.toNat % l.length = k := ⟨_, rfl⟩
    have hkl : k < l.length := by rw [← hk]; exact Nat.mod_lt _ hpos
    obtain ⟨g, off, rfl, hc, -⟩ := pr_at HR.out k hkl
    obtain ⟨x, hx⟩ : ∃ x, (l[k]).1 = x := ⟨_, rfl⟩
    rw [hx] at hc
    have hs : sampV l n = .tuple #[.string x, .bool true] := by
      unfold sampV
      rw [if_neg (fun e => h0 (by rw [e]; rfl)), hk, List.getElem?_eq_getElem hkl, ← hx]
      rfl
    have hm : (wd n).tmod (l.length : Int) = (k : Int) := by
      show (((n.toNat : Nat) : Int)).tmod (l.length : Int) = _
      rw [← Int.ofNat_tmod, hk]
    have hu1 : IntKind.u64.wrap (l.length : Int) = (l.length : Int) := IntWalk.u64_in _ (by omega)
    have hu2 : IntKind.i64.wrap (k : Int) = (k : Int) := IntWalk.i64_in _ (by omega)
    have b0 : (0 : Int) ≤ (k : Int) := by omega
    have b1 : (k : Int) < (l.length : Int) := by omega
    have hn1 : ¬ (l.length : Int) = 0 := by omega
    have HS := Lib.hid hs
    clear hk hx hs
    rw [HS.out]
    go_enter Try.func128, Try.ntmps128
    go_wp2_with fail
    go_quiet (fail)
    go_wp2
    go_ret2
    exact ⟨rfl, Fr.drewN _ _ _⟩
/-- the document's record: its pairs rising -/
structure RrF (w : World) (B mr : Nat) (F : Nat → Prop) (N : NM) (A l : List Pr) : Prop where
  x : ∃ p Fd X av, RrX w B mr F N (L0P A) l p Fd X av
  rise : l.Pairwise ltP
  perm : l.Perm A
  few : l.length ≤ 1048576
  fit : ∀ x ∈ l, Fits x
  lo : N.old.length ≤ max 4 (2 * 1048576)
  ly : N.young.length ≤ max 4 (2 * 1048576)
def RrGot (w : World) (B mr : Nat) (F : Nat → Prop) (N' : NM) (A' l' : List Pr) (w' : World) : Prop := RrF w' B mr (Grew F w w') N' A' l' ∧ Fr F w w'
section
variable {w w' : World} {B B' mr : Nat} {F T : Nat → Prop} {N : NM} {A l : List Pr}
theorem RrF.len (h : RrF w B mr F N A l) : (L0P A).length = l.length := by rw [L0P_len, h.perm.length_eq]
theorem RrF.other (h : RrF w B mr F N A l) (hf : Fr T w w') (hd : ∀ k, F k → ¬ T k) : RrF w' B mr F N A l := by
  obtain ⟨⟨p, Fd, X, av, hx⟩, h2, h3, h4, h5, h6, h7⟩ := h
  exact ⟨⟨p, Fd, X, av, hx.other hf hd⟩, h2, h3, h4, h5, h6, h7⟩
theorem RrF.quiet (h : RrF w B mr F N A l) (hf : Fr (fun _ => False) w w') : RrF w' B mr F N A l := h.other hf (fun _ _ h => h)
theorem RrF.base (h : RrF w B mr F N A l) (hb : B' ≤ B) : RrF w B' mr F N A l := by
  obtain ⟨⟨p, Fd, X, av, hx⟩, h2, h3, h4, h5, h6, h7⟩ := h
  exact ⟨⟨p, Fd, X, av, hx.base hb⟩, h2, h3, h4, h5, h6, h7⟩
theorem RrF.wide {F' : Nat → Prop} (h : RrF w B mr F N A l) (hF : ∀ k, F k → F' k) (hl : ∀ k, F' k → B ≤ k ∧ k < w.heap.size) : RrF w B mr F' N A l := by
  obtain ⟨⟨p, Fd, X, av, hx⟩, h2, h3, h4, h5, h6, h7⟩ := h
  exact ⟨⟨p, Fd, X, av, hx.wide hF hl⟩, h2, h3, h4, h5, h6, h7⟩
end
set_option maxHeartbeats 1000000 in
theorem rrGet_any (A : List Pr) (h : RrF w B mr F N A l) (hB : B ≤ w.heap.size) :
    Calls Try.prog 125 #[.pointer (some ⟨mr, 0, none⟩), .string key] w fun e w' => e = .returned (.tuple #[valG A key, .bool (fdG key A).isSome]) ∧ RrGot w B mr F (stepN N) A l w' := by
  have hL := h.len
  obtain ⟨⟨p, Fd, X, av, hx⟩, h2, h3, h4, h5, h6, h7⟩ := h
  have HS := Lib.hid h2
  have HP := Lib.hid h3
  have HG := Lib.hid (rdGet_any w B p Fd N _ X key hx.d hB (by omega) (by omega) (by omega))
  have c2 := hx.cells.2.2
  have HX := Lib.hid hx
  have HZ := Lib.hid h5
  have HLO : Hid (N.old.length ≤ max 4 (2 * 1048576) ∧ N.young.length ≤ max 4 (2 * 1048576)) := ⟨h6, h7⟩
  clear hx h2 h3 h5 hL h6 h7
  go_enter Try.func125, Try.ntmps125
  go_wp2_with fail
  refine HG.out.mono ?_
  rintro e w1 ⟨rfl, ht⟩
  obtain ⟨X', hx1, hf1⟩ := HX.out.turn hB ht (stepN_seed N)
  have HX1 := Lib.hid hx1
  have HF1 := Lib.hid hf1
  have HPL := Lib.hid (rrPlace_any w1 B mr p _ _ _ _ l X' av key hx1)
  have d1 := hx1.cells.2.1
  clear hx1 hf1 ht HG
  go_wp2_with fail
  refine HPL.out.mono ?_
  rintro e w' ⟨i, hpl, rfl, m, rfl⟩
  have HGT2 : Hid (RrGot w B mr F (stepN N) A l (w1.drewN m)) := ⟨⟨⟨_, _, _, _, (HX1.out.quiet (Fr.drewN _ _ _)).wide (fun k hk => hk) (fun k hk => HX1.out.lt k hk)⟩, HS.out, HP.out, h4, HZ.out, (stepN_lens HLO.out.1 HLO.out.2).1, (stepN_lens HLO.out.1 HLO.out.2).2⟩, HF1.out.thenDrewN _⟩
  have hb := place_boolP HS.out HP.out hpl
  rw [hb]
  cases ha : fdG key A with
  | none =>
    have HV := Lib.hid (valG_none ha)
    have HFD := Lib.hid ha
    rw [ha] at hb
    clear ha hpl
    go_wp2_with fail
    go_ret2
    exact ⟨by rw [HV.out, HFD.out]; rfl, HGT2.out⟩
  | some j =>
    rw [ha] at hb
    obtain ⟨s, hs⟩ := isAt_some.1 hb
    obtain ⟨was, hw⟩ := fdG_some ha
    have e : s = was := uniqP HS.out (List.mem_of_getElem? hs) (HP.out.mem_iff.2 (List.mem_of_getElem? hw))
    subst e
    have HV := Lib.hid (valG_some ha hw)
    have HFD := Lib.hid ha
    obtain ⟨hil, hie⟩ := List.getElem?_eq_some_iff.1 hs
    obtain ⟨aa, ac, rfl⟩ := ow_sliceN HX.out.row
    obtain ⟨g, off, rfl, -, hc⟩ := pr_at (RdC.of_owns HX1.out.row) i hil
    rw [hie] at hc
    dsimp only at hc
    have b0 : (0 : Int) ≤ (i : Int) := by omega
    have b1 : (i : Int) < (l.length : Int) := by omega
    clear ha hpl hs hw hb hie
    go_wp2_with fail
    go_ret2
    exact ⟨by rw [HV.out, HFD.out]; rfl, HGT2.out⟩
end
end Go.Proofs.Ytgomilodeaafdaa
namespace Go.Proofs.Ytgomilodeaafdaa
open Go.RowKit
theorem grew_set9 {F : Nat → Prop} {w w' : World} {a : Addr} {v : Value} {k : Nat} : Grew F w (w'.setCell a v) k ↔ Grew F w w' k := by unfold Grew; rw [World.size_setCell]
theorem rd_preP {w : World} {a : Option Addr} {n c : Nat} {l : List Pr} (h : RdC w 2 (.slice a n c) n (l.flatMap encP)) (i : Nat) (hi : i ≤ n) : RdC w 2 (.slice a i c) i ((l.take i).flatMap encP) := by
  have := rd_take h i hi
  rw [take_flat] at this
  exact this
theorem rd_sufP {w : World} {g off n c : Nat} {l : List Pr} (h : RdC w 2 (.slice (some ⟨g, off, none⟩) n c) n (l.flatMap encP)) (i : Nat) (hi : i ≤ n) : RdC w 2 (.slice (some ⟨g, off + i * 2, none⟩) (n - i) (c - i)) (n - i) ((l.drop i).flatMap encP) := by
  obtain ⟨h1, a', c', e, h2, h3, h4, h5⟩ := h
  cases e
  rw [flat_size encP 2 (fun _ => rfl)] at h1
  refine ⟨by rw [flat_size encP 2 (fun _ => rfl), List.length_drop]; omega, _, _, rfl, by omega, by omega, (fun e => by cases e), fun ad had j u hu => ?_⟩
  cases had
  rw [← drop_flat, List.getElem?_drop] at hu
  have := h5 _ rfl (i * 2 + j) u hu
  rw [Addr.add_lit] at this ⊢
  rw [Nat.add_assoc]
  exact this
theorem rd_doneP {w : World} {g : Nat} {l : List Pr} (cap : Nat) (h : l.length ≤ cap) : RdC w 2 (.slice (some ⟨g, 0, none⟩) (l.length - cap) 0) (l.length - cap) ((l.drop cap).flatMap encP) := by
  have e : l.length - cap = 0 := by omega
  have e2 : l.drop cap = [] := List.drop_eq_nil_of_le h
  rw [e, e2]
  exact ⟨by simp, _, _, rfl, Nat.zero_le _, Nat.zero_le _, fun h => (by cases h), fun ad _ j u hu => by simp at hu⟩
section
variable (w : World) (B mr : Nat) (F : Nat → Prop) (N : NM) (A l : List Pr) (key s : ByteArray)
theorem rrSet_long (hk : key.size ≤ maxLen) (hs : s.size ≤ maxLen) (h : ¬ Fits (key, s)) : Calls Try.prog 124 #[.pointer (some ⟨mr, 0, none⟩), .string key, .string s] w fun e w' => e = .returned (.tuple #[.bool false, .int .i64 2]) ∧ w = w' := by
  unfold maxLen at hk hs
  by_cases h1 : 1048576 < key.size
  · have g1 : decide (1048576 < (key.size : Int)) = true := by rw [decide_eq_true_eq]; omega
    clear h
    go_enter Try.func124, Try.ntmps124
    go_wp2
    go_ret2
    exact ⟨rfl, rfl⟩
  · have g1 : decide (1048576 < (key.size : Int)) = false := by rw [decide_eq_false_iff_not]; omega
    have h2 : 1048576 < s.size := by unfold Fits at h; dsimp only at h; omega
    have g2 : decide (1048576 < (s.size : Int)) = true := by rw [decide_eq_true_eq]; omega
    clear h
    go_enter Try.func124, Try.ntmps124
    go_wp2
    go_ret2
    exact ⟨rfl, rfl⟩
set_option maxRecDepth 100000 in
set_option maxHeartbeats 1000000 in
theorem rrSet_there (j : Nat) (h : RrF w B mr F N A l) (hB : B ≤ w.heap.size) (hk : Fits (key, s)) (ha : fdG key A = some j) :
    Calls Try.prog 124 #[.pointer (some ⟨mr, 0, none⟩), .string key, .string s] w fun e w' => e = .returned (.tuple #[.bool false, .int .i64 0]) ∧ ∃ l', RrGot w B mr F (setN (stepN N) key true (L0P A).length) (setG A key s) l' w' := by
  have hL := h.len
  obtain ⟨⟨p, Fd, X, av, hx⟩, h2, h3, h4, h5, h6, h7⟩ := h
  have HS := Lib.hid h2
  have HP := Lib.hid h3
  have HG := Lib.hid (rdGet_any w B p Fd N _ X key hx.d hB (by omega) (by omega) (by omega))
  have c2 := hx.cells.2.2
  have HX := Lib.hid hx
  have HZ := Lib.hid h5
  have HLE := Lib.hid hL
  have HLO : Hid (N.old.length ≤ max 4 (2 * 1048576) ∧ N.young.length ≤ max 4 (2 * 1048576)) := ⟨h6, h7⟩
  have g1 : decide (1048576 < (key.size : Int)) = false := by rw [decide_eq_false_iff_not]; have := hk.1; dsimp only at this; omega
  have g1b : decide (1048576 < (s.size : Int)) = false := by rw [decide_eq_false_iff_not]; have := hk.2; dsimp only at this; omega
  have HA : Hid ((fdG key A).isSome = true) := by show _ = _; rw [ha]; rfl
  have HAN := Lib.hid ha
  clear hx h2 h3 h5 hL h6 h7 ha
  go_enter Try.func124, Try.ntmps124
  go_wp2_with fail
  refine HG.out.mono ?_
  rintro e w1 ⟨rfl, ht⟩
  obtain ⟨X', hx1, hf1⟩ := HX.out.turn hB ht (stepN_seed N)
  have HPL := Lib.hid (rrPlace_any w1 B mr p _ _ _ _ l X' _ key hx1)
  have HX1h := Lib.hid hx1
  have HF1h := Lib.hid hf1
  clear hx1 hf1 ht HG
  go_wp2_with fail
  refine HPL.out.mono ?_
  rintro e w' ⟨i, hpl, rfl, m, hm⟩
  have hx1 := (HX1h.out.quiet (Fr.drewN (fun _ => False) w1 m)).wide (F' := Grew F w (w1.drewN m)) (fun k hk => hk) (fun k hk => HX1h.out.lt k hk)
  rw [← hm] at hx1
  have hf1 : Fr F w w' := by rw [hm]; exact HF1h.out.thenDrewN _
  obtain ⟨w1, hw1⟩ : ∃ x, x = w' := ⟨_, rfl⟩
  rw [← hw1] at hx1 hf1
  rw [← hw1]
  clear hm hw1 HX1h HF1h
  have HX1 := Lib.hid hx1
  have HF1 := Lib.hid hf1
  have d1 := hx1.cells.2.1
  have d2 := hx1.cells.2.2
  have hb := place_boolP HS.out HP.out hpl
  have HB1 : Hid (B ≤ w1.heap.size) := Nat.le_trans hB hf1.size
  have HST := Lib.hid (rdSet_any w1 B p _ (stepN N) _ X' key 0 hx1.d HB1.out (by have := (stepN_lens HLO.out.1 HLO.out.2).1; omega) (by have := (stepN_lens HLO.out.1 HLO.out.2).2; omega) (by have := HLE.out; omega) (by have := hk.1; dsimp only at this; unfold maxLen; omega))
  rw [fdG_L0P, HA.out, L0P_set key s] at HST
  rw [HA.out] at hb
  rw [hb]
  obtain ⟨was, hwas⟩ := isAt_some.1 hb
  have HW := Lib.hid hwas
  have hil := (List.getElem?_eq_some_iff.1 hwas).1
  clear hx1 hf1 hpl hwas hb HPL
  go_wp2_with fail
  refine HST.out.mono ?_
  rintro e w2 ⟨rfl, ht⟩
  obtain ⟨X2, hx2, hf2⟩ := HX1.out.turn HB1.out ht (by rw [setN_seed])
  have HX2 := Lib.hid hx2
  have HF2 := Lib.hid hf2
  have k1 := hx2.cells.2.1
  obtain ⟨aa, ac, rfl⟩ := ow_sliceN hx2.row
  obtain ⟨g, rfl, -, z1, -, z2⟩ := rowP_at hx2.row rfl i hil
  have hput := rowP_put2 hx2.row i hil s
  have e1 : (l[i]).1 = key := by rw [(List.getElem?_eq_some_iff.1 HW.out).2]
  rw [e1] at hput
  have HPT := Lib.hid hput
  have b0 : (0 : Int) ≤ (i : Int) := by omega
  have b1 : (i : Int) < (l.length : Int) := by omega
  clear hx2 hf2 ht HST d1 d2 hput e1
  go_wp2_with fail
  go_ret2
  have hfs := Fr.setCell w2 ⟨g, i * 2 + 1, none⟩ (.string s)
  have hng := HX2.out.na g rfl
  have hgm : ¬ mr = g := fun e => (own_blk HX2.out.row rfl).2.2.ne HX2.out.bm (by decide) e.symm
  have hs1 := HF1.out.size
  have hs2 := HF2.out.size
  have hgl := HX2.out.lt g (HX2.out.fa g rfl)
  have hg2 := grow_lens2 (stepN N) key (L0P A).length 1048576 true (stepN_lens HLO.out.1 HLO.out.2).1 (stepN_lens HLO.out.1 HLO.out.2).2 (by have := HLE.out; omega)
  have hsg : setG A key s = A.set j (key, s) := setG_some HAN.out
  have hwide : ∀ k, Grew (Grew F w w1) w1 w2 k → Grew F w (w2.setCell ⟨g, i * 2 + 1, none⟩ (.string s)) k := fun k hk => grew_set9.2 (by
    rcases hk with (hk | hk) | hk
    · exact .inl hk
    · exact .inr ⟨hk.1, by omega⟩
    · exact .inr ⟨by omega, hk.2⟩)
  have hx3 : RrX (w2.setCell ⟨g, i * 2 + 1, none⟩ (.string s)) B mr (Grew F w (w2.setCell ⟨g, i * 2 + 1, none⟩ (.string s))) (setN (stepN N) key true (L0P A).length) (L0P (setG A key s)) (l.set i (key, s)) p _ X2 _ :=
    ⟨(hfs.block mr (HX2.out.lt mr HX2.out.fm).2 hgm).trans HX2.out.blk, hwide mr HX2.out.fm, HX2.out.nm, HX2.out.d.other hfs (fun k hk e => hng (by rw [← show k = g from e]; exact hk)), fun k hk => hwide k (HX2.out.fd k hk), by rw [List.length_set]; exact HPT.out, fun g' hg => hwide g' (HX2.out.fa g' hg), HX2.out.na, fun k hk => by
      rw [World.size_setCell]
      rcases grew_set9.1 hk with hk | hk
      · exact HX2.out.lt k (.inl (.inl hk))
      · exact ⟨by omega, hk.2⟩⟩
  refine ⟨rfl, l.set i (key, s), ⟨⟨_, _, _, _, hx3⟩, place_setP HS.out HW.out s, ?_, by rw [List.length_set]; exact h4, fun x hx => ?_, hg2.1, hg2.2⟩, ?_⟩
  · rw [hsg]; exact set_permP HS.out HP.out HW.out HAN.out s
  · rcases List.mem_or_eq_of_mem_set hx with hx | rfl
    · exact HZ.out x hx
    · exact hk
  · have hb := HX.out.fa g rfl
    exact (HF1.out.wide HF2.out (fun k hk => hk.imp id (fun q => q.1))).thenSet _ _ (fun _ => hb)
set_option maxHeartbeats 1000000 in
theorem rrSet_full (h : RrF w B mr F N A l) (hB : B ≤ w.heap.size) (hk : Fits (key, s)) (ha : (fdG key A).isSome = false) (hl : 1048576 ≤ l.length) :
    Calls Try.prog 124 #[.pointer (some ⟨mr, 0, none⟩), .string key, .string s] w fun e w' => e = .returned (.tuple #[.bool false, .int .i64 4]) ∧ RrGot w B mr F (stepN N) A l w' := by
  have hL := h.len
  obtain ⟨⟨p, Fd, X, av, hx⟩, h2, h3, h4, h5, h6, h7⟩ := h
  have HS := Lib.hid h2
  have HP := Lib.hid h3
  have HG := Lib.hid (rdGet_any w B p Fd N _ X key hx.d hB (by omega) (by omega) (by omega))
  have c2 := hx.cells.2.2
  have HX := Lib.hid hx
  have HZ := Lib.hid h5
  have HLE := Lib.hid hL
  have HLO : Hid (N.old.length ≤ max 4 (2 * 1048576) ∧ N.young.length ≤ max 4 (2 * 1048576)) := ⟨h6, h7⟩
  have g1 : decide (1048576 < (key.size : Int)) = false := by rw [decide_eq_false_iff_not]; have := hk.1; dsimp only at this; omega
  have g1b : decide (1048576 < (s.size : Int)) = false := by rw [decide_eq_false_iff_not]; have := hk.2; dsimp only at this; omega
  have g2 : decide (1048576 ≤ (l.length : Int)) = true := by rw [decide_eq_true_eq]; omega
  have HA := Lib.hid ha
  obtain ⟨aa, ac, rfl⟩ := ow_sliceN HX.out.row
  clear hx h2 h3 h5 hL h6 h7 ha
  go_enter Try.func124, Try.ntmps124
  go_wp2_with fail
  refine HG.out.mono ?_
  rintro e w1 ⟨rfl, ht⟩
  obtain ⟨X', hx1, hf1⟩ := HX.out.turn hB ht (stepN_seed N)
  have HPL := Lib.hid (rrPlace_any w1 B mr p _ _ _ _ l X' _ key hx1)
  have HX1h := Lib.hid hx1
  have HF1h := Lib.hid hf1
  clear hx1 hf1 ht HG
  go_wp2_with fail
  refine HPL.out.mono ?_
  rintro e w' ⟨i, hpl, rfl, m, hm⟩
  have hx1 := (HX1h.out.quiet (Fr.drewN (fun _ => False) w1 m)).wide (F' := Grew F w (w1.drewN m)) (fun k hk => hk) (fun k hk => HX1h.out.lt k hk)
  rw [← hm] at hx1
  have hf1 : Fr F w w' := by rw [hm]; exact HF1h.out.thenDrewN _
  obtain ⟨w1, hw1⟩ : ∃ x, x = w' := ⟨_, rfl⟩
  rw [← hw1] at hx1 hf1
  rw [← hw1]
  clear hm hw1 HX1h HF1h
  have HX1 := Lib.hid hx1
  have HF1 := Lib.hid hf1
  have d1 := hx1.cells.2.1
  have d2 := hx1.cells.2.2
  have hb := place_boolP HS.out HP.out hpl
  rw [HA.out] at hb
  rw [hb]
  clear hx1 hf1 hpl hb HPL
  go_wp2_with fail
  go_ret2
  exact ⟨rfl, ⟨⟨_, _, _, _, HX1.out⟩, HS.out, HP.out, h4, HZ.out, (stepN_lens HLO.out.1 HLO.out.2).1, (stepN_lens HLO.out.1 HLO.out.2).2⟩, HF1.out⟩
set_option maxRecDepth 100000 in
set_option maxHeartbeats 1000000 in
theorem rrSet_new (p : Nat) (Fd : Nat → Prop) (X : RB) (g cap : Nat) (hx : RrX w B mr F N (L0P A) l p Fd X (.slice (some ⟨g, 0, none⟩) l.length cap)) (h2 : l.Pairwise ltP) (h3 : l.Perm A) (h4 : l.length < 1048576) (h5 : ∀ x ∈ l, Fits x) (h6 : N.old.length ≤ max 4 (2 * 1048576)) (h7 : N.young.length ≤ max 4 (2 * 1048576)) (hB : B ≤ w.heap.size) (hk : Fits (key, s)) (ha : fdG key A = none) :
    Calls Try.prog 124 #[.pointer (some ⟨mr, 0, none⟩), .string key, .string s] w fun e w' => e = .returned (.tuple #[.bool true, .int .i64 0]) ∧ ∃ l', RrGot w B mr F (setN (stepN N) key false (L0P A).length) (A ++ [(key, s)]) l' w' := by
  have hL : (L0P A).length = l.length := by rw [L0P_len, h3.length_eq]
  have HS := Lib.hid h2
  have HP := Lib.hid h3
  have HG := Lib.hid (rdGet_any w B p Fd N _ X key hx.d hB (by omega) (by omega) (by omega))
  have c2 := hx.cells.2.2
  have HX := Lib.hid hx
  have HZ := Lib.hid h5
  have HLE := Lib.hid hL
  have HLO : Hid (N.old.length ≤ max 4 (2 * 1048576) ∧ N.young.length ≤ max 4 (2 * 1048576)) := ⟨h6, h7⟩
  have g1 : decide (1048576 < (key.size : Int)) = false := by rw [decide_eq_false_iff_not]; have := hk.1; dsimp only at this; omega
  have g1b : decide (1048576 < (s.size : Int)) = false := by rw [decide_eq_false_iff_not]; have := hk.2; dsimp only at this; omega
  have g2 : decide (1048576 ≤ (l.length : Int)) = false := by rw [decide_eq_false_iff_not]; omega
  have HA : Hid ((fdG key A).isSome = false) := by show _ = _; rw [ha]; rfl
  have HAN := Lib.hid ha
  clear hx h2 h3 h5 hL h6 h7 ha
  go_enter Try.func124, Try.ntmps124
  go_wp2_with fail
  refine HG.out.mono ?_
  rintro e w1 ⟨rfl, ht⟩
  obtain ⟨X', hx1, hf1⟩ := HX.out.turn hB ht (stepN_seed N)
  have HPL := Lib.hid (rrPlace_any w1 B mr p _ _ _ _ l X' _ key hx1)
  have HX1h := Lib.hid hx1
  have HF1h := Lib.hid hf1
  clear hx1 hf1 ht HG
  go_wp2_with fail
  refine HPL.out.mono ?_
  rintro e w' ⟨i, hpl, rfl, m, hm⟩
  have hx1 := (HX1h.out.quiet (Fr.drewN (fun _ => False) w1 m)).wide (F' := Grew F w (w1.drewN m)) (fun k hk => hk) (fun k hk => HX1h.out.lt k hk)
  rw [← hm] at hx1
  have hf1 : Fr F w w' := by rw [hm]; exact HF1h.out.thenDrewN _
  obtain ⟨w1, hw1⟩ : ∃ x, x = w' := ⟨_, rfl⟩
  rw [← hw1] at hx1 hf1
  rw [← hw1]
  clear hm hw1 HX1h HF1h
  have HX1 := Lib.hid hx1
  have HF1 := Lib.hid hf1
  have d1 := hx1.cells.2.1
  have d2 := hx1.cells.2.2
  have hb := place_boolP HS.out HP.out hpl
  have HB1 : Hid (B ≤ w1.heap.size) := Nat.le_trans hB hf1.size
  have HST := Lib.hid (rdSet_any w1 B p _ (stepN N) _ X' key 0 hx1.d HB1.out (by have := (stepN_lens HLO.out.1 HLO.out.2).1; omega) (by have := (stepN_lens HLO.out.1 HLO.out.2).2; omega) (by have := HLE.out; omega) (by have := hk.1; dsimp only at this; unfold maxLen; omega))
  rw [fdG_L0P, HA.out, L0P_set key s, setG_none HAN.out] at HST
  rw [HA.out] at hb
  rw [hb]
  have HPP := Lib.hid hpl
  have hile := hpl.le
  clear hx1 hf1 hpl hb HPL
  go_wp2_with fail
  refine HST.out.mono ?_
  rintro e w2 ⟨rfl, ht⟩
  obtain ⟨X2, hx2, hf2⟩ := HX1.out.turn HB1.out ht (by rw [setN_seed])
  have HX2 := Lib.hid hx2
  have HF2 := Lib.hid hf2
  have k1 := hx2.cells.2.1
  have hmr := (hx2.lt mr hx2.fm).2
  clear hx2 hf2 ht HST d1 d2
  obtain ⟨i0, hi, hz0, hz1, hz2⟩ := info_parts infoPr
  have HI := Lib.hid hi
  have HZ0 := Lib.hid hz0
  have HZ1 := Lib.hid hz1
  have HZ2 := Lib.hid hz2
  have HR2 := Lib.hid (RdC.of_owns HX2.out.row)
  clear hi hz0 hz1 hz2
  by_cases hci : cap = i
  · subst hci
    have hcl : l.length ≤ cap := by have := HR2.out; obtain ⟨-, a', c', e, h2, -⟩ := this; cases e; exact h2
    have hclh := Lib.hid hcl
    clear hcl
    go_wp2_with (first | (at_builtin; refine wpl_append2 rfl (.tmp 58) (.tmp 64) 47 rfl w2.heap.size 51 i0 (.agg #[.string ⟨#[]⟩, .string ⟨#[]⟩]) 2 32 Try.underlying47 HI.out HZ0.out HZ1.out HZ2.out rfl (by decide) (.slice none 0 0) 0 [] rfl (World.ownsRow_nil _ _ _ _) (.slice (some ⟨g, 0, none⟩) cap cap) cap _ rfl (rd_preP HR2.out cap hile) (onesP _) (by unfold maxLen; omega) (by omega) (Nat.le_refl _) ?_; intro vo w3 hown hgrow hap; rw [Nat.zero_add, List.nil_append] at hown; obtain ⟨oa, oc, rfl⟩ := ow_sliceN hown; have HO3 := Lib.hid hown; have HB3 : Hid (Below w2.heap.size w2 w3) := (Fr.of_grownBy hgrow).below (Nat.le_refl _) (fun i hi => (by cases hi)); have hs3 : Hid (w2.heap.size ≤ w3.heap.size) := HB3.out.size; clear hown hgrow hap) | (at_builtin; refine wpl_append2 rfl (.tmp 66) (.tmp 70) 47 rfl w2.heap.size 51 i0 (.agg #[.string ⟨#[]⟩, .string ⟨#[]⟩]) 2 32 Try.underlying47 HI.out HZ0.out HZ1.out HZ2.out rfl (by decide) (.slice oa cap oc) cap _ rfl (HO3.out.alloc _) _ 1 [.string key, .string s] rfl (RdC.of_owns (World.ownsRow_lit (base := w3.heap.size) (e := 51) (size := 2) w3 #[.string key, .string s] 1 (Nat.le_refl _) (by decide) rfl)) (by simp [Value.oneCell']) (by unfold maxLen; omega) (by omega) (by rw [World.size_alloc]; have := hs3.out; omega) ?_; intro vo4 w4 hown hgrow hap; obtain ⟨oa4, oc4, rfl⟩ := ow_sliceN hown; have HO4 := Lib.hid hown; have HB4 : Hid (Below w2.heap.size w2 w4) := (HB3.out.alloc HB3.out.size _).trans ((Fr.of_grownBy hgrow).below (by rw [World.size_alloc]; have := hs3.out; omega) (fun i hi => (own_blk HO3.out hi).1)); have hs4 : Hid (w2.heap.size ≤ w4.heap.size) := HB4.out.size; have hq4 := fr_bel0 HB4.out; have k4 := hq4.cell k1 (fun h => h); have HR4 := Lib.hid (HR2.out.fr hq4 (fun _ _ h => h)); clear hown hgrow hap hq4) | (at_builtin; refine wpl_append2 rfl (.tmp 73) (.tmp 79) 47 rfl w2.heap.size 51 i0 (.agg #[.string ⟨#[]⟩, .string ⟨#[]⟩]) 2 32 Try.underlying47 HI.out HZ0.out HZ1.out HZ2.out rfl (by decide) (.slice oa4 (cap + 1) oc4) (cap + 1) _ rfl HO4.out (.slice (some ⟨g, 0, none⟩) (l.length - cap) 0) (l.length - cap) _ rfl (rd_doneP cap hclh.out) (onesP _) (by unfold maxLen; omega) (by omega) hs4.out ?_; intro vo5 w5 hown hgrow hap; obtain ⟨oa5, oc5, rfl⟩ := ow_sliceN hown; have HO5 := Lib.hid hown; have HB5 : Hid (Below w2.heap.size w2 w5) := HB4.out.trans ((Fr.of_grownBy hgrow).below hs4.out (fun i hi => (own_blk HO4.out hi).1)); have hq5 := fr_bel0 HB5.out; have k5 := hq5.cell k1 (fun h => h); have l5 := free_of_blk ((hq5.block mr hmr (fun h => h)).trans HX2.out.blk) 1; clear hown hgrow hap hq5))
    go_ret2
    have hpi : _ := place_insP s HS.out HPP.out (fun hm => by obtain ⟨x, hx, e⟩ := List.mem_map.1 hm; exact fdG_none HAN.out x (HP.out.mem_iff.1 hx) e)
    have hlen : (l.take cap ++ (key, s) :: l.drop cap).length = cap + 1 + (l.length - cap) := by simp; omega
    have hx5 := (HX2.out.quiet (fr_bel0 HB5.out)).all (l' := (l.take cap ++ (key, s) :: l.drop cap)) (b := w2.heap.size) (Nat.le_trans HB1.out HF2.out.size) (fun k hk => (HX2.out.lt k hk).2) (by rw [hlen]; have h9 := HO5.out; rw [List.flatMap_append, List.flatMap_cons]; simpa [encP] using h9)
    have hs5 := HB5.out.size
    have hs1 := HF1.out.size
    have hs2 := HF2.out.size
    have hg2 := grow_lens2 (stepN N) key (L0P A).length 1048576 false (stepN_lens HLO.out.1 HLO.out.2).1 (stepN_lens HLO.out.1 HLO.out.2).2 (by have := HLE.out; omega)
    refine ⟨rfl, (l.take cap ++ (key, s) :: l.drop cap), ⟨⟨_, _, _, _, hx5.wide (F' := Grew F w _) (fun k hk => grew_set9.2 ?_) (fun k hk => ?_)⟩, hpi.1, ?_, by rw [hlen]; omega, fun x hx => ?_, hg2.1, hg2.2⟩, ?_⟩
    · rcases hk with ((hk | hk) | hk) | hk
      · exact .inl hk
      · exact .inr ⟨hk.1, by omega⟩
      · exact .inr ⟨by omega, by omega⟩
      · exact .inr ⟨by omega, hk.2⟩
    · rcases grew_set9.1 hk with hk | hk
      · exact hx5.lt k (.inl (.inl (.inl hk)))
      · exact ⟨by omega, by rw [World.size_setCell]; exact hk.2⟩
    · exact hpi.2.trans (HP.out.append_right _)
    · rcases List.mem_append.1 (hpi.2.mem_iff.1 hx) with hx | hx
      · exact HZ.out x hx
      · rw [List.mem_singleton.1 hx]; exact hk
    · refine (((HF1.out.wide HF2.out (fun k hk => hk.imp id (fun q => q.1))).wide (fr_bel0 HB5.out) (fun _ h => h.elim))).thenSet _ _ (fun _ => HX.out.fm)
  · have hcap : i < cap := by have := HR2.out; obtain ⟨-, a', c', e, h2, -⟩ := this; cases e; omega
    have i1 : (i : Int) ≤ (l.length : Int) := by omega
    have i2 : (i : Int) ≤ (cap : Int) := by omega
    have i00 : (0 : Int) ≤ (i : Int) := by omega
    go_wp2_with (first | (at_builtin; refine wpl_append2 rfl (.tmp 58) (.tmp 64) 47 rfl w2.heap.size 51 i0 (.agg #[.string ⟨#[]⟩, .string ⟨#[]⟩]) 2 32 Try.underlying47 HI.out HZ0.out HZ1.out HZ2.out rfl (by decide) (.slice none 0 0) 0 [] rfl (World.ownsRow_nil _ _ _ _) (.slice (some ⟨g, 0, none⟩) i cap) i _ rfl (rd_preP HR2.out i hile) (onesP _) (by unfold maxLen; omega) (by omega) (Nat.le_refl _) ?_; intro vo w3 hown hgrow hap; rw [Nat.zero_add, List.nil_append] at hown; obtain ⟨oa, oc, rfl⟩ := ow_sliceN hown; have HO3 := Lib.hid hown; have HB3 : Hid (Below w2.heap.size w2 w3) := (Fr.of_grownBy hgrow).below (Nat.le_refl _) (fun i hi => (by cases hi)); have hs3 : Hid (w2.heap.size ≤ w3.heap.size) := HB3.out.size; clear hown hgrow hap) | (at_builtin; refine wpl_append2 rfl (.tmp 66) (.tmp 70) 47 rfl w2.heap.size 51 i0 (.agg #[.string ⟨#[]⟩, .string ⟨#[]⟩]) 2 32 Try.underlying47 HI.out HZ0.out HZ1.out HZ2.out rfl (by decide) (.slice oa i oc) i _ rfl (HO3.out.alloc _) _ 1 [.string key, .string s] rfl (RdC.of_owns (World.ownsRow_lit (base := w3.heap.size) (e := 51) (size := 2) w3 #[.string key, .string s] 1 (Nat.le_refl _) (by decide) rfl)) (by simp [Value.oneCell']) (by unfold maxLen; omega) (by omega) (by rw [World.size_alloc]; have := hs3.out; omega) ?_; intro vo4 w4 hown hgrow hap; obtain ⟨oa4, oc4, rfl⟩ := ow_sliceN hown; have HO4 := Lib.hid hown; have HB4 : Hid (Below w2.heap.size w2 w4) := (HB3.out.alloc HB3.out.size _).trans ((Fr.of_grownBy hgrow).below (by rw [World.size_alloc]; have := hs3.out; omega) (fun i hi => (own_blk HO3.out hi).1)); have hs4 : Hid (w2.heap.size ≤ w4.heap.size) := HB4.out.size; have hq4 := fr_bel0 HB4.out; have k4 := hq4.cell k1 (fun h => h); have HR4 := Lib.hid (HR2.out.fr hq4 (fun _ _ h => h)); clear hown hgrow hap hq4) | (at_builtin; refine wpl_append2 rfl (.tmp 73) (.tmp 79) 47 rfl w2.heap.size 51 i0 (.agg #[.string ⟨#[]⟩, .string ⟨#[]⟩]) 2 32 Try.underlying47 HI.out HZ0.out HZ1.out HZ2.out rfl (by decide) (.slice oa4 (i + 1) oc4) (i + 1) _ rfl HO4.out (.slice (some ⟨g, i * 2, none⟩) (l.length - i) (cap - i)) (l.length - i) _ rfl (by have := rd_sufP HR4.out i hile; rw [Nat.zero_add] at this; exact this) (onesP _) (by unfold maxLen; omega) (by omega) hs4.out ?_; intro vo5 w5 hown hgrow hap; obtain ⟨oa5, oc5, rfl⟩ := ow_sliceN hown; have HO5 := Lib.hid hown; have HB5 : Hid (Below w2.heap.size w2 w5) := HB4.out.trans ((Fr.of_grownBy hgrow).below hs4.out (fun i hi => (own_blk HO4.out hi).1)); have hq5 := fr_bel0 HB5.out; have k5 := hq5.cell k1 (fun h => h); have l5 := free_of_blk ((hq5.block mr hmr (fun h => h)).trans HX2.out.blk) 1; clear hown hgrow hap hq5))
    go_ret2
    have hpi : _ := place_insP s HS.out HPP.out (fun hm => by obtain ⟨x, hx, e⟩ := List.mem_map.1 hm; exact fdG_none HAN.out x (HP.out.mem_iff.1 hx) e)
    have hlen : (l.take i ++ (key, s) :: l.drop i).length = i + 1 + (l.length - i) := by simp; omega
    have hx5 := (HX2.out.quiet (fr_bel0 HB5.out)).all (l' := (l.take i ++ (key, s) :: l.drop i)) (b := w2.heap.size) (Nat.le_trans HB1.out HF2.out.size) (fun k hk => (HX2.out.lt k hk).2) (by rw [hlen]; have h9 := HO5.out; rw [List.flatMap_append, List.flatMap_cons]; simpa [encP] using h9)
    have hs5 := HB5.out.size
    have hs1 := HF1.out.size
    have hs2 := HF2.out.size
    have hg2 := grow_lens2 (stepN N) key (L0P A).length 1048576 false (stepN_lens HLO.out.1 HLO.out.2).1 (stepN_lens HLO.out.1 HLO.out.2).2 (by have := HLE.out; omega)
    refine ⟨rfl, (l.take i ++ (key, s) :: l.drop i), ⟨⟨_, _, _, _, hx5.wide (F' := Grew F w _) (fun k hk => grew_set9.2 ?_) (fun k hk => ?_)⟩, hpi.1, ?_, by rw [hlen]; omega, fun x hx => ?_, hg2.1, hg2.2⟩, ?_⟩
    · rcases hk with ((hk | hk) | hk) | hk
      · exact .inl hk
      · exact .inr ⟨hk.1, by omega⟩
      · exact .inr ⟨by omega, by omega⟩
      · exact .inr ⟨by omega, hk.2⟩
    · rcases grew_set9.1 hk with hk | hk
      · exact hx5.lt k (.inl (.inl (.inl hk)))
      · exact ⟨by omega, by rw [World.size_setCell]; exact hk.2⟩
    · exact hpi.2.trans (HP.out.append_right _)
    · rcases List.mem_append.1 (hpi.2.mem_iff.1 hx) with hx | hx
      · exact HZ.out x hx
      · rw [List.mem_singleton.1 hx]; exact hk
    · refine (((HF1.out.wide HF2.out (fun k hk => hk.imp id (fun q => q.1))).wide (fr_bel0 HB5.out) (fun _ h => h.elim))).thenSet _ _ (fun _ => HX.out.fm)
set_option maxRecDepth 100000 in
set_option maxHeartbeats 1000000 in
theorem rrSet_new0 (hnil : l = []) (p : Nat) (Fd : Nat → Prop) (X : RB) (hx : RrX w B mr F N (L0P A) l p Fd X (.slice none 0 0)) (h2 : l.Pairwise ltP) (h3 : l.Perm A) (h4 : l.length < 1048576) (h5 : ∀ x ∈ l, Fits x) (h6 : N.old.length ≤ max 4 (2 * 1048576)) (h7 : N.young.length ≤ max 4 (2 * 1048576)) (hB : B ≤ w.heap.size) (hk : Fits (key, s)) (ha : fdG key A = none) :
    Calls Try.prog 124 #[.pointer (some ⟨mr, 0, none⟩), .string key, .string s] w fun e w' => e = .returned (.tuple #[.bool true, .int .i64 0]) ∧ ∃ l', RrGot w B mr F (setN (stepN N) key false (L0P A).length) (A ++ [(key, s)]) l' w' := by
  subst hnil
  have hL : (L0P A).length = ([] : List Pr).length := by rw [L0P_len, h3.length_eq]
  have HS := Lib.hid h2
  have HP := Lib.hid h3
  have HG := Lib.hid (rdGet_any w B p Fd N _ X key hx.d hB (by omega) (by omega) (by omega))
  have c2 := hx.cells.2.2
  have HX := Lib.hid hx
  have HZ := Lib.hid h5
  have HLE := Lib.hid hL
  have HLO : Hid (N.old.length ≤ max 4 (2 * 1048576) ∧ N.young.length ≤ max 4 (2 * 1048576)) := ⟨h6, h7⟩
  have g1 : decide (1048576 < (key.size : Int)) = false := by rw [decide_eq_false_iff_not]; have := hk.1; dsimp only at this; omega
  have g1b : decide (1048576 < (s.size : Int)) = false := by rw [decide_eq_false_iff_not]; have := hk.2; dsimp only at this; omega
  have g2 : decide (1048576 ≤ (([] : List Pr).length : Int)) = false := by rw [decide_eq_false_iff_not]; omega
  have HA : Hid ((fdG key A).isSome = false) := by show _ = _; rw [ha]; rfl
  have HAN := Lib.hid ha
  clear hx h2 h3 h5 hL h6 h7 ha
  go_enter Try.func124, Try.ntmps124
  go_wp2_with fail
  refine HG.out.mono ?_
  rintro e w1 ⟨rfl, ht⟩
  obtain ⟨X', hx1, hf1⟩ := HX.out.turn hB ht (stepN_seed N)
  have HPL := Lib.hid (rrPlace_any w1 B mr p _ _ _ _ [] X' _ key hx1)
  have HX1h := Lib.hid hx1
  have HF1h := Lib.hid hf1
  clear hx1 hf1 ht HG
  go_wp2_with fail
  refine HPL.out.mono ?_
  rintro e w' ⟨i, hpl, rfl, m, hm⟩
  have hx1 := (HX1h.out.quiet (Fr.drewN (fun _ => False) w1 m)).wide (F' := Grew F w (w1.drewN m)) (fun k hk => hk) (fun k hk => HX1h.out.lt k hk)
  rw [← hm] at hx1
  have hf1 : Fr F w w' := by rw [hm]; exact HF1h.out.thenDrewN _
  obtain ⟨w1, hw1⟩ : ∃ x, x = w' := ⟨_, rfl⟩
  rw [← hw1] at hx1 hf1
  rw [← hw1]
  clear hm hw1 HX1h HF1h
  have HX1 := Lib.hid hx1
  have HF1 := Lib.hid hf1
  have d1 := hx1.cells.2.1
  have d2 := hx1.cells.2.2
  have hb := place_boolP HS.out HP.out hpl
  have HB1 : Hid (B ≤ w1.heap.size) := Nat.le_trans hB hf1.size
  have HST := Lib.hid (rdSet_any w1 B p _ (stepN N) _ X' key 0 hx1.d HB1.out (by have := (stepN_lens HLO.out.1 HLO.out.2).1; omega) (by have := (stepN_lens HLO.out.1 HLO.out.2).2; omega) (by have := HLE.out; omega) (by have := hk.1; dsimp only at this; unfold maxLen; omega))
  rw [fdG_L0P, HA.out, L0P_set key s, setG_none HAN.out] at HST
  rw [HA.out] at hb
  rw [hb]
  have HPP := Lib.hid hpl
  have hile := hpl.le
  clear hx1 hf1 hpl hb HPL
  go_wp2_with fail
  refine HST.out.mono ?_
  rintro e w2 ⟨rfl, ht⟩
  obtain ⟨X2, hx2, hf2⟩ := HX1.out.turn HB1.out ht (by rw [setN_seed])
  have HX2 := Lib.hid hx2
  have HF2 := Lib.hid hf2
  have k1 := hx2.cells.2.1
  have hmr := (hx2.lt mr hx2.fm).2
  clear hx2 hf2 ht HST d1 d2
  obtain ⟨i0, hi, hz0, hz1, hz2⟩ := info_parts infoPr
  have HI := Lib.hid hi
  have HZ0 := Lib.hid hz0
  have HZ1 := Lib.hid hz1
  have HZ2 := Lib.hid hz2
  clear hi hz0 hz1 hz2
  obtain rfl : i = 0 := by simpa using hile
  go_wp2_with (first | (at_builtin; refine wpl_append2 rfl (.tmp 58) (.tmp 64) 47 rfl w2.heap.size 51 i0 (.agg #[.string ⟨#[]⟩, .string ⟨#[]⟩]) 2 32 Try.underlying47 HI.out HZ0.out HZ1.out HZ2.out rfl (by decide) (.slice none 0 0) 0 [] rfl (World.ownsRow_nil _ _ _ _) (.slice none 0 0) 0 [] rfl (RdC.nil _ _) (fun u hu => by cases hu) (by unfold maxLen; omega) (by omega) (Nat.le_refl _) ?_; intro vo w3 hown hgrow hap; rw [Nat.zero_add, List.nil_append] at hown; obtain ⟨oa, oc, rfl⟩ := ow_sliceN hown; have HO3 := Lib.hid hown; have HB3 : Hid (Below w2.heap.size w2 w3) := (Fr.of_grownBy hgrow).below (Nat.le_refl _) (fun i hi => (by cases hi)); have hs3 : Hid (w2.heap.size ≤ w3.heap.size) := HB3.out.size; clear hown hgrow hap) | (at_builtin; refine wpl_append2 rfl (.tmp 66) (.tmp 70) 47 rfl w2.heap.size 51 i0 (.agg #[.string ⟨#[]⟩, .string ⟨#[]⟩]) 2 32 Try.underlying47 HI.out HZ0.out HZ1.out HZ2.out rfl (by decide) (.slice oa 0 oc) 0 _ rfl (HO3.out.alloc _) _ 1 [.string key, .string s] rfl (RdC.of_owns (World.ownsRow_lit (base := w3.heap.size) (e := 51) (size := 2) w3 #[.string key, .string s] 1 (Nat.le_refl _) (by decide) rfl)) (by simp [Value.oneCell']) (by unfold maxLen; omega) (by omega) (by rw [World.size_alloc]; have := hs3.out; omega) ?_; intro vo4 w4 hown hgrow hap; obtain ⟨oa4, oc4, rfl⟩ := ow_sliceN hown; have HO4 := Lib.hid hown; have HB4 : Hid (Below w2.heap.size w2 w4) := (HB3.out.alloc HB3.out.size _).trans ((Fr.of_grownBy hgrow).below (by rw [World.size_alloc]; have := hs3.out; omega) (fun i hi => (own_blk HO3.out hi).1)); have hs4 : Hid (w2.heap.size ≤ w4.heap.size) := HB4.out.size; have hq4 := fr_bel0 HB4.out; have k4 := hq4.cell k1 (fun h => h); clear hown hgrow hap hq4) | (at_builtin; refine wpl_append2 rfl (.tmp 73) (.tmp 79) 47 rfl w2.heap.size 51 i0 (.agg #[.string ⟨#[]⟩, .string ⟨#[]⟩]) 2 32 Try.underlying47 HI.out HZ0.out HZ1.out HZ2.out rfl (by decide) (.slice oa4 1 oc4) 1 _ rfl HO4.out (.slice none 0 0) 0 [] rfl (RdC.nil _ _) (fun u hu => by cases hu) (by unfold maxLen; omega) (by omega) hs4.out ?_; intro vo5 w5 hown hgrow hap; obtain ⟨oa5, oc5, rfl⟩ := ow_sliceN hown; have HO5 := Lib.hid hown; have HB5 : Hid (Below w2.heap.size w2 w5) := HB4.out.trans ((Fr.of_grownBy hgrow).below hs4.out (fun i hi => (own_blk HO4.out hi).1)); have hq5 := fr_bel0 HB5.out; have k5 := hq5.cell k1 (fun h => h); have l5 := free_of_blk ((hq5.block mr hmr (fun h => h)).trans HX2.out.blk) 1; clear hown hgrow hap hq5))
  go_ret2
  have hpi : [(key, s)].Pairwise ltP ∧ [(key, s)].Perm ([] ++ [(key, s)]) := ⟨List.pairwise_singleton _ _, List.Perm.refl _⟩
  have hlen : [(key, s)].length = 1 := rfl
  have hx5 := (HX2.out.quiet (fr_bel0 HB5.out)).all (l' := [(key, s)]) (b := w2.heap.size) (Nat.le_trans HB1.out HF2.out.size) (fun k hk => (HX2.out.lt k hk).2) (by rw [hlen]; have h9 := HO5.out; simpa [encP] using h9)
  have hs5 := HB5.out.size
  have hs1 := HF1.out.size
  have hs2 := HF2.out.size
  have hg2 := grow_lens2 (stepN N) key (L0P A).length 1048576 false (stepN_lens HLO.out.1 HLO.out.2).1 (stepN_lens HLO.out.1 HLO.out.2).2 (by have := HLE.out; omega)
  refine ⟨rfl, [(key, s)], ⟨⟨_, _, _, _, hx5.wide (F' := Grew F w _) (fun k hk => grew_set9.2 ?_) (fun k hk => ?_)⟩, hpi.1, ?_, by rw [hlen]; omega, fun x hx => ?_, hg2.1, hg2.2⟩, ?_⟩
  · rcases hk with ((hk | hk) | hk) | hk
    · exact .inl hk
    · exact .inr ⟨hk.1, by omega⟩
    · exact .inr ⟨by omega, by omega⟩
    · exact .inr ⟨by omega, hk.2⟩
  · rcases grew_set9.1 hk with hk | hk
    · exact hx5.lt k (.inl (.inl (.inl hk)))
    · exact ⟨by omega, by rw [World.size_setCell]; exact hk.2⟩
  · exact hpi.2.trans (HP.out.append_right _)
  · rcases List.mem_append.1 (hpi.2.mem_iff.1 hx) with hx | hx
    · exact HZ.out x hx
    · rw [List.mem_singleton.1 hx]; exact hk
  · refine (((HF1.out.wide HF2.out (fun k hk => hk.imp id (fun q => q.1))).wide (fr_bel0 HB5.out) (fun _ h => h.elim))).thenSet _ _ (fun _ => HX.out.fm)
theorem rrSet_any (h : RrF w B mr F N A l) (hB : B ≤ w.heap.size) (hk : Fits (key, s)) :
    Calls Try.prog 124 #[.pointer (some ⟨mr, 0, none⟩), .string key, .string s] w fun e w' => ∃ N' A' l', RrGot w B mr F N' A' l' w' ∧
      (((fdG key A).isSome = true ∧ e = .returned (.tuple #[.bool false, .int .i64 0]) ∧ N' = setN (stepN N) key true (L0P A).length ∧ A' = setG A key s) ∨
       (fdG key A = none ∧ 1048576 ≤ A.length ∧ e = .returned (.tuple #[.bool false, .int .i64 4]) ∧ N' = stepN N ∧ A' = A) ∨
       (fdG key A = none ∧ A.length < 1048576 ∧ e = .returned (.tuple #[.bool true, .int .i64 0]) ∧ N' = setN (stepN N) key false (L0P A).length ∧ A' = A ++ [(key, s)])) := by
  have hll := h.perm.length_eq
  cases ha : fdG key A with
  | some j =>
    refine (rrSet_there w B mr F N A l key s j h hB hk ha).mono ?_
    rintro e w' ⟨h1, l', h2⟩
    exact ⟨_, _, _, h2, .inl ⟨rfl, h1, rfl, rfl⟩⟩
  | none =>
    by_cases hl : 1048576 ≤ l.length
    · refine (rrSet_full w B mr F N A l key s h hB hk (by rw [ha]; rfl) hl).mono ?_
      rintro e w' ⟨h1, h2⟩
      exact ⟨_, _, _, h2, .inr (.inl ⟨rfl, by omega, h1, rfl, rfl⟩)⟩
    · obtain ⟨p, Fd, X, av, hx⟩ := h.x
      have hl2 : l.length < 1048576 := by omega
      rcases hx.row.2 with ⟨hv, h0⟩ | ⟨g, cap, cur, hv, -⟩
      · subst hv
        have hl0 : l = [] := List.length_eq_zero_iff.1 h0
        refine (rrSet_new0 w B mr F N A l key s hl0 p Fd X hx h.rise h.perm hl2 h.fit h.lo h.ly hB hk ha).mono ?_
        rintro e w' ⟨h1, l', h2⟩
        exact ⟨_, _, l', h2, .inr (.inr ⟨rfl, by omega, h1, rfl, rfl⟩)⟩
      · subst hv
        refine (rrSet_new w B mr F N A l key s p Fd X g cap hx h.rise h.perm hl2 h.fit h.lo h.ly hB hk ha).mono ?_
        rintro e w' ⟨h1, l', h2⟩
        exact ⟨_, _, l', h2, .inr (.inr ⟨rfl, by omega, h1, rfl, rfl⟩)⟩
end
end Go.Proofs.Ytgomilodeaafdaa
namespace Go.Proofs.Ytgomilodeaafdaa
open Go.RowKit
section
variable (w : World) (B mr : Nat) (F : Nat → Prop) (N : NM) (A l : List Pr) (key : ByteArray)
set_option maxHeartbeats 1000000 in
theorem rrDel_none (h : RrF w B mr F N A l) (hB : B ≤ w.heap.size) (ha : (fdG key A).isSome = false) :
    Calls Try.prog 126 #[.pointer (some ⟨mr, 0, none⟩), .string key] w fun e w' => e = .returned (.bool false) ∧ RrGot w B mr F (stepN N) A l w' := by
  have hL := h.len
  obtain ⟨⟨p, Fd, X, av, hx⟩, h2, h3, h4, h5, h6, h7⟩ := h
  have HS := Lib.hid h2
  have HP := Lib.hid h3
  have HG := Lib.hid (rdGet_any w B p Fd N _ X key hx.d hB (by omega) (by omega) (by omega))
  have c2 := hx.cells.2.2
  have HX := Lib.hid hx
  have HZ := Lib.hid h5
  have HLE := Lib.hid hL
  have HLO : Hid (N.old.length ≤ max 4 (2 * 1048576) ∧ N.young.length ≤ max 4 (2 * 1048576)) := ⟨h6, h7⟩
  have HA := Lib.hid ha
  clear hx h2 h3 h5 hL h6 h7 ha
  go_enter Try.func126, Try.ntmps126
  go_wp2_with fail
  refine HG.out.mono ?_
  rintro e w1 ⟨rfl, ht⟩
  obtain ⟨X', hx1, hf1⟩ := HX.out.turn hB ht (stepN_seed N)
  have HPL := Lib.hid (rrPlace_any w1 B mr p _ _ _ _ l X' _ key hx1)
  have HX1h := Lib.hid hx1
  have HF1h := Lib.hid hf1
  clear hx1 hf1 ht HG
  go_wp2_with fail
  refine HPL.out.mono ?_
  rintro e w' ⟨i, hpl, rfl, m, hm⟩
  have hx1 := (HX1h.out.quiet (Fr.drewN (fun _ => False) w1 m)).wide (F' := Grew F w (w1.drewN m)) (fun k hk => hk) (fun k hk => HX1h.out.lt k hk)
  rw [← hm] at hx1
  have hf1 : Fr F w w' := by rw [hm]; exact HF1h.out.thenDrewN _
  obtain ⟨w1, hw1⟩ : ∃ x, x = w' := ⟨_, rfl⟩
  rw [← hw1] at hx1 hf1
  rw [← hw1]
  clear hm hw1 HX1h HF1h
  have HX1 := Lib.hid hx1
  have HF1 := Lib.hid hf1
  have d1 := hx1.cells.2.1
  have d2 := hx1.cells.2.2
  have hb := place_boolP HS.out HP.out hpl
  rw [HA.out] at hb
  rw [hb]
  clear hx1 hf1 hpl hb HPL
  go_wp2_with fail
  go_ret
  exact ⟨rfl, ⟨⟨_, _, _, _, HX1.out⟩, HS.out, HP.out, h4, HZ.out, (stepN_lens HLO.out.1 HLO.out.2).1, (stepN_lens HLO.out.1 HLO.out.2).2⟩, HF1.out⟩
set_option maxRecDepth 100000 in
set_option maxHeartbeats 1000000 in
theorem rrDel_there (j0 : Nat) (h : RrF w B mr F N A l) (hB : B ≤ w.heap.size) (hk : key.size ≤ maxLen) (ha : fdG key A = some j0) :
    Calls Try.prog 126 #[.pointer (some ⟨mr, 0, none⟩), .string key] w fun e w' => e = .returned (.bool true) ∧ ∃ l', RrGot w B mr F (delN (stepN N) key true (L0P A).length) (delG A key) l' w' := by
  have hL := h.len
  obtain ⟨⟨p, Fd, X, av, hx⟩, h2, h3, h4, h5, h6, h7⟩ := h
  have hjl := fdG_lt ha
  have hpl0 := h3.length_eq
  obtain ⟨g, cap, rfl, -, -⟩ := hx.row.form (by omega)
  have HS := Lib.hid h2
  have HP := Lib.hid h3
  have HG := Lib.hid (rdGet_any w B p Fd N _ X key hx.d hB (by omega) (by omega) (by omega))
  have c2 := hx.cells.2.2
  have HX := Lib.hid hx
  have HZ := Lib.hid h5
  have HLE := Lib.hid hL
  have HLO : Hid (N.old.length ≤ max 4 (2 * 1048576) ∧ N.young.length ≤ max 4 (2 * 1048576)) := ⟨h6, h7⟩
  have HA : Hid ((fdG key A).isSome = true) := by show _ = _; rw [ha]; rfl
  have HAN := Lib.hid ha
  clear hx h2 h3 h5 hL h6 h7 ha hjl hpl0
  go_enter Try.func126, Try.ntmps126
  go_wp2_with fail
  refine HG.out.mono ?_
  rintro e w1 ⟨rfl, ht⟩
  obtain ⟨X', hx1, hf1⟩ := HX.out.turn hB ht (stepN_seed N)
  have HPL := Lib.hid (rrPlace_any w1 B mr p _ _ _ _ l X' _ key hx1)
  have HX1h := Lib.hid hx1
  have HF1h := Lib.hid hf1
  clear hx1 hf1 ht HG
  go_wp2_with fail
  refine HPL.out.mono ?_
  rintro e w' ⟨i, hpl, rfl, m, hm⟩
  have hx1 := (HX1h.out.quiet (Fr.drewN (fun _ => False) w1 m)).wide (F' := Grew F w (w1.drewN m)) (fun k hk => hk) (fun k hk => HX1h.out.lt k hk)
  rw [← hm] at hx1
  have hf1 : Fr F w w' := by rw [hm]; exact HF1h.out.thenDrewN _
  obtain ⟨w1, hw1⟩ : ∃ x, x = w' := ⟨_, rfl⟩
  rw [← hw1] at hx1 hf1
  rw [← hw1]
  clear hm hw1 HX1h HF1h
  have HX1 := Lib.hid hx1
  have HF1 := Lib.hid hf1
  have d1 := hx1.cells.2.1
  have d2 := hx1.cells.2.2
  have hb := place_boolP HS.out HP.out hpl
  have HB1 : Hid (B ≤ w1.heap.size) := Nat.le_trans hB hf1.size
  have HST := Lib.hid (rdDel_any w1 B p _ (stepN N) _ X' key hx1.d HB1.out (by have := (stepN_lens HLO.out.1 HLO.out.2).1; omega) (by have := (stepN_lens HLO.out.1 HLO.out.2).2; omega) (by have := HLE.out; omega) hk)
  rw [fdG_L0P, HA.out, L0P_del key] at HST
  rw [HA.out] at hb
  rw [hb]
  obtain ⟨was, hwas⟩ := isAt_some.1 hb
  have HIK := Lib.hid hwas
  have hile := (List.getElem?_eq_some_iff.1 hwas).1
  clear hx1 hf1 hpl hb hwas HPL
  go_wp2_with fail
  refine HST.out.mono ?_
  rintro e w2 ⟨rfl, ht⟩
  obtain ⟨X2, hx2, hf2⟩ := HX1.out.turn HB1.out ht (by rw [delN_seed])
  have HX2 := Lib.hid hx2
  have HF2 := Lib.hid hf2
  have k1 := hx2.cells.2.1
  have hmr := (hx2.lt mr hx2.fm).2
  clear hx2 hf2 ht HST d1 d2
  obtain ⟨i0, hi, hz0, hz1, hz2⟩ := info_parts infoPr
  have HI := Lib.hid hi
  have HZ0 := Lib.hid hz0
  have HZ1 := Lib.hid hz1
  have HZ2 := Lib.hid hz2
  have HR2 := Lib.hid (RdC.of_owns HX2.out.row)
  clear hi hz0 hz1 hz2
  have hcl0 : l.length ≤ cap := by have := HR2.out; obtain ⟨-, a', c', e, h2, -⟩ := this; cases e; exact h2
  have hcm : cap ≤ maxLen := by have := HR2.out; obtain ⟨-, a', c', e, -, h3, -⟩ := this; cases e; exact h3
  obtain ⟨j, hj⟩ : ∃ j, i + 1 = j := ⟨_, rfl⟩
  have e1 : IntKind.i64.wrap ((i : Int) + 1) = (j : Int) := by rw [IntWalk.i64_in _ (by omega)]; omega
  have e2 : (i : Int) + 1 = (j : Int) := by omega
  have j1 : (j : Int) ≤ (l.length : Int) := by omega
  have j2 : (j : Int) ≤ (cap : Int) := by omega
  have j3 : (0 : Int) ≤ (j : Int) := by omega
  have i1 : (i : Int) ≤ (l.length : Int) := by omega
  have i2 : (i : Int) ≤ (cap : Int) := by omega
  have i00 : (0 : Int) ≤ (i : Int) := by omega
  have HJ := Lib.hid hj
  have hjl : j ≤ l.length := by omega
  have HC0 := Lib.hid hcl0
  clear hj hcl0
  by_cases hci : cap = j
  · subst hci
    go_wp2_with (first | (at_builtin; refine wpl_append2 rfl (.tmp 30) (.tmp 36) 47 rfl w2.heap.size 51 i0 (.agg #[.string ⟨#[]⟩, .string ⟨#[]⟩]) 2 32 Try.underlying47 HI.out HZ0.out HZ1.out HZ2.out rfl (by decide) (.slice none 0 0) 0 [] rfl (World.ownsRow_nil _ _ _ _) (.slice (some ⟨g, 0, none⟩) i cap) i _ rfl (rd_preP HR2.out i (by omega)) (onesP _) (by unfold maxLen; omega) (by omega) (Nat.le_refl _) ?_; intro vo w3 hown hgrow hap; rw [Nat.zero_add, List.nil_append] at hown; obtain ⟨oa, oc, rfl⟩ := ow_sliceN hown; have HO4 := Lib.hid hown; have HB4 : Hid (Below w2.heap.size w2 w3) := (Fr.of_grownBy hgrow).below (Nat.le_refl _) (fun i hi => (by cases hi)); have hs4 : Hid (w2.heap.size ≤ w3.heap.size) := HB4.out.size; have hq4 := fr_bel0 HB4.out; have k4 := hq4.cell k1 (fun h => h); have HR4 := Lib.hid (HR2.out.fr hq4 (fun _ _ h => h)); clear hown hgrow hap hq4) | (at_builtin; refine wpl_append2 rfl (.tmp 39) (.tmp 46) 47 rfl w2.heap.size 51 i0 (.agg #[.string ⟨#[]⟩, .string ⟨#[]⟩]) 2 32 Try.underlying47 HI.out HZ0.out HZ1.out HZ2.out rfl (by decide) (.slice oa i oc) i _ rfl HO4.out (.slice (some ⟨g, 0, none⟩) (l.length - cap) 0) (l.length - cap) _ rfl (rd_doneP cap HC0.out) (onesP _) (by unfold maxLen; omega) (by omega) hs4.out ?_; intro vo5 w5 hown hgrow hap; obtain ⟨oa5, oc5, rfl⟩ := ow_sliceN hown; have HO5 := Lib.hid hown; have HB5 : Hid (Below w2.heap.size w2 w5) := HB4.out.trans ((Fr.of_grownBy hgrow).below hs4.out (fun i hi => (own_blk HO4.out hi).1)); have hq5 := fr_bel0 HB5.out; have k5 := hq5.cell k1 (fun h => h); have l5 := free_of_blk ((hq5.block mr hmr (fun h => h)).trans HX2.out.blk) 1; clear hown hgrow hap hq5))
    go_ret
    have hpi := place_delP HS.out HIK.out
    have hpm := del_permP HS.out HP.out HIK.out HAN.out
    have hji : i + 1 = cap := HJ.out
    rw [hji] at hpi hpm
    have hlen : (l.take i ++ l.drop cap).length = i + (l.length - cap) := by simp; omega
    have hx5 := (HX2.out.quiet (fr_bel0 HB5.out)).all (l' := l.take i ++ l.drop cap) (b := w2.heap.size) (Nat.le_trans HB1.out HF2.out.size) (fun k hk => (HX2.out.lt k hk).2) (by rw [hlen]; have h9 := HO5.out; rw [List.flatMap_append]; exact h9)
    have hs5 := HB5.out.size
    have hs1 := HF1.out.size
    have hs2 := HF2.out.size
    have hg2 := del_lens2 (stepN N) key (L0P A).length 1048576 true (stepN_lens HLO.out.1 HLO.out.2).1 (stepN_lens HLO.out.1 HLO.out.2).2 (by have := HLE.out; omega)
    refine ⟨rfl, l.take i ++ l.drop cap, ⟨⟨_, _, _, _, hx5.wide (F' := Grew F w _) (fun k hk => grew_set9.2 ?_) (fun k hk => ?_)⟩, hpi.1, ?_, by rw [hlen]; omega, fun x hx => ?_, hg2.1, hg2.2⟩, ?_⟩
    · rcases hk with ((hk | hk) | hk) | hk
      · exact .inl hk
      · exact .inr ⟨hk.1, by omega⟩
      · exact .inr ⟨by omega, by omega⟩
      · exact .inr ⟨by omega, hk.2⟩
    · rcases grew_set9.1 hk with hk | hk
      · exact hx5.lt k (.inl (.inl (.inl hk)))
      · exact ⟨by omega, by rw [World.size_setCell]; exact hk.2⟩
    · rw [delG_some HAN.out]; exact hpm
    · exact HZ.out x (hpi.2.mem_iff.2 (List.mem_cons_of_mem _ hx))
    · refine (((HF1.out.wide HF2.out (fun k hk => hk.imp id (fun q => q.1))).wide (fr_bel0 HB5.out) (fun _ h => h.elim))).thenSet _ _ (fun _ => HX.out.fm)
  · have hcap : j < cap := by have := HC0.out; omega
    go_wp2_with (first | (at_builtin; refine wpl_append2 rfl (.tmp 30) (.tmp 36) 47 rfl w2.heap.size 51 i0 (.agg #[.string ⟨#[]⟩, .string ⟨#[]⟩]) 2 32 Try.underlying47 HI.out HZ0.out HZ1.out HZ2.out rfl (by decide) (.slice none 0 0) 0 [] rfl (World.ownsRow_nil _ _ _ _) (.slice (some ⟨g, 0, none⟩) i cap) i _ rfl (rd_preP HR2.out i (by omega)) (onesP _) (by unfold maxLen; omega) (by omega) (Nat.le_refl _) ?_; intro vo w3 hown hgrow hap; rw [Nat.zero_add, List.nil_append] at hown; obtain ⟨oa, oc, rfl⟩ := ow_sliceN hown; have HO4 := Lib.hid hown; have HB4 : Hid (Below w2.heap.size w2 w3) := (Fr.of_grownBy hgrow).below (Nat.le_refl _) (fun i hi => (by cases hi)); have hs4 : Hid (w2.heap.size ≤ w3.heap.size) := HB4.out.size; have hq4 := fr_bel0 HB4.out; have k4 := hq4.cell k1 (fun h => h); have HR4 := Lib.hid (HR2.out.fr hq4 (fun _ _ h => h)); clear hown hgrow hap hq4) | (at_builtin; refine wpl_append2 rfl (.tmp 39) (.tmp 46) 47 rfl w2.heap.size 51 i0 (.agg #[.string ⟨#[]⟩, .string ⟨#[]⟩]) 2 32 Try.underlying47 HI.out HZ0.out HZ1.out HZ2.out rfl (by decide) (.slice oa i oc) i _ rfl HO4.out (.slice (some ⟨g, j * 2, none⟩) (l.length - j) (cap - j)) (l.length - j) _ rfl (by have := rd_sufP HR4.out j hjl; rw [Nat.zero_add] at this; exact this) (onesP _) (by unfold maxLen; omega) (by omega) hs4.out ?_; intro vo5 w5 hown hgrow hap; obtain ⟨oa5, oc5, rfl⟩ := ow_sliceN hown; have HO5 := Lib.hid hown; have HB5 : Hid (Below w2.heap.size w2 w5) := HB4.out.trans ((Fr.of_grownBy hgrow).below hs4.out (fun i hi => (own_blk HO4.out hi).1)); have hq5 := fr_bel0 HB5.out; have k5 := hq5.cell k1 (fun h => h); have l5 := free_of_blk ((hq5.block mr hmr (fun h => h)).trans HX2.out.blk) 1; clear hown hgrow hap hq5))
    go_ret
    have hpi := place_delP HS.out HIK.out
    have hpm := del_permP HS.out HP.out HIK.out HAN.out
    have hji : i + 1 = j := HJ.out
    rw [hji] at hpi hpm
    have hlen : (l.take i ++ l.drop j).length = i + (l.length - j) := by simp; omega
    have hx5 := (HX2.out.quiet (fr_bel0 HB5.out)).all (l' := l.take i ++ l.drop j) (b := w2.heap.size) (Nat.le_trans HB1.out HF2.out.size) (fun k hk => (HX2.out.lt k hk).2) (by rw [hlen]; have h9 := HO5.out; rw [List.flatMap_append]; exact h9)
    have hs5 := HB5.out.size
    have hs1 := HF1.out.size
    have hs2 := HF2.out.size
    have hg2 := del_lens2 (stepN N) key (L0P A).length 1048576 true (stepN_lens HLO.out.1 HLO.out.2).1 (stepN_lens HLO.out.1 HLO.out.2).2 (by have := HLE.out; omega)
    refine ⟨rfl, l.take i ++ l.drop j, ⟨⟨_, _, _, _, hx5.wide (F' := Grew F w _) (fun k hk => grew_set9.2 ?_) (fun k hk => ?_)⟩, hpi.1, ?_, by rw [hlen]; omega, fun x hx => ?_, hg2.1, hg2.2⟩, ?_⟩
    · rcases hk with ((hk | hk) | hk) | hk
      · exact .inl hk
      · exact .inr ⟨hk.1, by omega⟩
      · exact .inr ⟨by omega, by omega⟩
      · exact .inr ⟨by omega, hk.2⟩
    · rcases grew_set9.1 hk with hk | hk
      · exact hx5.lt k (.inl (.inl (.inl hk)))
      · exact ⟨by omega, by rw [World.size_setCell]; exact hk.2⟩
    · rw [delG_some HAN.out]; exact hpm
    · exact HZ.out x (hpi.2.mem_iff.2 (List.mem_cons_of_mem _ hx))
    · refine (((HF1.out.wide HF2.out (fun k hk => hk.imp id (fun q => q.1))).wide (fr_bel0 HB5.out) (fun _ h => h.elim))).thenSet _ _ (fun _ => HX.out.fm)
theorem rrDel_any (h : RrF w B mr F N A l) (hB : B ≤ w.heap.size) (hk : key.size ≤ maxLen) :
    Calls Try.prog 126 #[.pointer (some ⟨mr, 0, none⟩), .string key] w fun e w' => e = .returned (.bool (fdG key A).isSome) ∧ ∃ N' l', RrGot w B mr F N' (delG A key) l' w' ∧
      ((fdG key A = none ∧ N' = stepN N) ∨ ((fdG key A).isSome = true ∧ N' = delN (stepN N) key true (L0P A).length)) := by
  cases ha : fdG key A with
  | none =>
    refine (rrDel_none w B mr F N A l key h hB (by rw [ha]; rfl)).mono ?_
    rintro e w' ⟨h1, h2⟩
    rw [delG_none ha]
    exact ⟨h1, _, l, h2, .inl ⟨rfl, rfl⟩⟩
  | some j0 =>
    refine (rrDel_there w B mr F N A l key j0 h hB hk ha).mono ?_
    rintro e w' ⟨h1, l', h2⟩
    exact ⟨h1, _, l', h2, .inr ⟨rfl, rfl⟩⟩
end
end Go.Proofs.Ytgomilodeaafdaa
namespace Go.Proofs.Ytgomilodeaafdaa
open Go.RowKit
section
variable (w : World) (B mr p : Nat) (F Fd : Nat → Prop) (N : NM) (L : Pl) (l : List Pr) (X : RB) (av : Value)
theorem rrScan_any (M : DM) (h : RrX w B mr F (nmM M) L l p Fd X av) (hi : Inv M) (ho : M.old.length ≤ 2097152) (hy : M.young.length ≤ 2097152) (hn : M.n ≤ 1048576) (c : UInt64) (count : Int) (hcl : -9223372036854775808 ≤ count) (hch : count ≤ 9223372036854775807) :
    Calls Try.prog 129 #[.pointer (some ⟨mr, 0, none⟩), .int .u64 (wd c), .int .i64 count] w fun e w' => ∃ u, e = .returned (.tuple #[.int .u64 ((scanK M c.toNat count).1 : Nat), u]) ∧ RowS w.heap.size w' u (scanK M c.toNat count).2 ∧ Fr (fun _ => False) w w' := by
  have c2 := h.cells.2.2
  have HT := Lib.hid (rdTables_any w B p Fd (nmM M) _ _ X h.d.c)
  obtain ⟨r1, r2⟩ := h.d.c.rows6
  have HN := Lib.hid (fun m => refNext_any (w.drewN m) _ _ M c count hi (by omega) (by omega) (by omega) hcl hch (r1.fr (Fr.drewN _ w m)) (r2.fr (Fr.drewN _ w m)))
  obtain ⟨a1, e1⟩ := rowV_eq X.t1 X.r1
  obtain ⟨a2, e2⟩ := rowV_eq X.t2 X.r2
  rw [e1, e2] at HT HN
  obtain ⟨c0, hc0⟩ : ∃ c0, wd c = c0 := ⟨_, rfl⟩
  rw [hc0] at HN ⊢
  clear h r1 r2 e1 e2 hi hc0
  go_enter Try.func129, Try.ntmps129
  go_wp2_with fail
  refine HT.out.mono ?_
  rintro e w' ⟨rfl, m, rfl⟩
  go_wp2_with fail
  refine (HN.out m).mono ?_
  rintro e w3 ⟨u, rfl, h1, h2⟩
  have H1 := Lib.hid h1
  have H2 := Lib.hid h2
  clear h1 h2
  go_wp2_with fail
  go_ret2
  exact ⟨u, rfl, H1.out, (Fr.drewN (fun _ => False) w m).trans (fr_bel0 H2.out) (fun _ h _ => h)⟩
set_option maxRecDepth 100000 in
set_option maxHeartbeats 1000000 in
theorem rrCost_any (h : RrX w B mr F N L l p Fd X av) (hl : l.length ≤ 1048576) (hz : ∀ x ∈ l, Fits x) :
    Calls Try.prog 61 #[.pointer (some ⟨mr, 0, none⟩)] w fun e w' => e = .returned (.int .i64 (costP l : Nat)) ∧ Fr (fun _ => False) w w' := by
  have hcell : ∀ m, (w.drewN m).cell? ⟨mr, 1, none⟩ = some av := fun m => (Fr.drewN (fun _ => False) w m).cell h.cells.2.1 (fun h => h)
  have HC := Lib.hid hcell
  have HZ := Lib.hid hz
  have hr := RdC.of_owns h.row
  obtain ⟨a, c, rfl⟩ := ow_sliceN h.row
  have HR := Lib.hid hr
  clear h hr hcell hz
  go_enter Try.func61, Try.ntmps61
  go_wp2_with fail
  go_loopw [3, 4] (fun s i wr => ∃ k m : Nat, i = .int .i64 k ∧ k ≤ l.length ∧ s = .int .i64 (costP (l.take k) : Nat) ∧ Hid (wr = w.drewN m)) (fun _ i _ => l.length - (intOf i).toNat)
  case atStart => exact ⟨0, 0, rfl, by omega, rfl, rfl⟩
  case round =>
    obtain ⟨k, m, rfl, hk, rfl, HW⟩ := hrel
    obtain ⟨wo, rfl⟩ : ∃ wo, wo = wr := ⟨_, rfl⟩
    have c1 : wo.cell? ⟨mr, 1, none⟩ = some (.slice a l.length c) := by rw [HW.out]; exact HC.out m
    by_cases hlt : k < l.length
    · obtain ⟨g, off, rfl, h1, h2⟩ := pr_at (HR.out.fr (Fr.drewN (fun _ => False) w m) (fun _ _ h => h)) k hlt
      rw [← HW.out] at h1 h2
      have hfz := HZ.out l[k] (List.getElem_mem hlt)
      have htk : costP (l.take (k + 1)) = costP (l.take k) + prC l[k] := by rw [List.take_succ_eq_append_getElem hlt, costP_snoc]
      have hle := costP_le (A := l.take k) (fun x hx => HZ.out x (List.mem_of_mem_take hx))
      have hll : (l.take k).length ≤ 1048576 := by rw [List.length_take]; omega
      obtain ⟨x, hx⟩ : ∃ x, l[k] = x := ⟨_, rfl⟩
      rw [hx] at h1 h2 hfz htk
      obtain ⟨f, s⟩ := x
      obtain ⟨hf1, hf2⟩ := hfz
      dsimp only at h1 h2 hf1 hf2
      obtain ⟨S, hS⟩ : ∃ S, costP (l.take k) = S := ⟨_, rfl⟩
      rw [hS] at htk hle
      have hSb : S ≤ 1048576 * 2097184 := Nat.le_trans hle (Nat.mul_le_mul_right _ hll)
      have e1 : IntKind.i64.wrap (32 + (f.size : Int)) = 32 + (f.size : Int) := IntWalk.i64_in _ (by omega)
      have e2 : IntKind.i64.wrap (32 + (f.size : Int) + (s.size : Int)) = 32 + (f.size : Int) + (s.size : Int) := IntWalk.i64_in _ (by omega)
      have e3 : IntKind.i64.wrap ((S : Int) + (32 + (f.size : Int) + (s.size : Int))) = (S : Int) + (32 + (f.size : Int) + (s.size : Int)) := IntWalk.i64_in _ (by omega)
      have b0 : (0 : Int) ≤ (k : Int) := by omega
      have b1 : (k : Int) < (l.length : Int) := by omega
      have HT : Hid (.int .i64 ((S : Int) + (32 + (f.size : Int) + (s.size : Int))) = Value.int .i64 ((costP (l.take (k + 1)) : Nat) : Int)) := by
        show _ = _
        rw [htk]
        unfold prC
        congr 1
      rw [hS]
      clear hS htk hle hll hx hSb
      go_upto_region 7 with (fail)
      go_quiet (fail)
      go_wp2_with fail
      go_roundw
      case rel => exact ⟨k + 1, m + nq, by go_num, by omega, HT.out, (show wo.drewN nq = _ by rw [HW.out]; exact drewN_drewN _ _ _)⟩
      case measure => simp [intOf]; omega
    · obtain rfl : k = l.length := by omega
      have htl : costP (l.take l.length) = costP l := by rw [List.take_length]
      rw [htl]
      clear htl
      obtain ⟨S, hS⟩ : ∃ S, costP l = S := ⟨_, rfl⟩
      have HSS := Lib.hid hS
      rw [hS]
      clear hS
      go_wp2_with fail
      go_ret
      exact ⟨by rw [HSS.out]; rfl, by rw [HW.out]; exact Fr.drewN _ _ _⟩
end
end Go.Proofs.Ytgomilodeaafdaa
