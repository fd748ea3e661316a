/- The frame of every law's proof in this seat: what a law's walk owes, and the statement that follows; A script's step for hubs as it comes in; Openings for HubPlays: a script whose texts are sized. No condition but sizes. -/
import Derived.Test.YtleoeccjnchclaaGreatDoorRows
import Derived.Test.YtleoeccjnchclaaGreatDoorZac
import Derived.Test.YtleoeccjnchclaaGreatDoorZab
import Derived.WalkKit
import Derived.ProofKit
import Derived.OpenShut
import Derived.ShutString
import Derived.ChangeOld
import Derived.Below
import Derived.SizedLaws
import Derived.Deep.Slices
import Derived.Deep.Fields
namespace Go.Proofs.YtleoeccjnchclaaGreatDoor
open Go.ChangeShapes Go.WideShapes Go.ChangeAt Go.RowKit
open Go.ChangeMaps (open_string shut_string)

theorem own : ownKnob Tryz.prog.godebug = none := by kernel_rfl
theorem laidOut : laidOutB Tryz.prog = true := by kernel_rfl

section
variable {H : Type} {enc : TypeId × Value → H} {P : Program}

/-- The arguments read again behind a call that wrote nothing that was there. -/
theorem trodAll_below {W W' : World} (hl : laidOutB P = true) (hb : Below W.heap.size W W') :
    ∀ (ts : List TypeId) (vs : List Value) (ds : List (DataW H)) (p : List MemPlace), (∀ t ∈ ts, P.readableRec t = true ∧ t < P.types.size) →
      DataW.TrodAll enc P W 0 (fun _ => true) true ts vs ds p → DataW.TrodAll enc P W' 0 (fun b => decide (b < W.heap.size)) true ts vs ds p := by
  intro ts
  induction ts with
  | nil =>
    intro vs ds p _ h
    obtain ⟨rfl, rfl, rfl⟩ := trodAll_nil h
    exact trodAll_mk0
  | cons t ts ih =>
    intro vs ds p ht h
    obtain ⟨v, vs1, d, ds1, a, b, rfl, rfl, rfl, h1, h2⟩ := trodAll_cons h
    have hr := ht t (by simp)
    have hlt : ∀ x ∈ a, x.block < W.heap.size := by obtain ⟨m, hm⟩ := h1; exact DataW.trod_lt m _ _ _ hm
    exact trodAll_cons_mk (Below.trod hl hr.1 hr.2 h1 hb hlt) (ih vs1 ds1 b (fun t' h' => ht t' (by simp [h'])) h2)

/-- A law's 'post': it returned true, and wrote nothing that was there. -/
theorem law_post {f : Func} {s : ChangeSpec} {W W' : World} {args : Array Value} {ds gs : List (DataW H)} {before : List MemPlace} {tb : TypeId}
    (hl : laidOutB P = true) (ht : P.underlying tb = some .bool) (hres : f.resultTypes = #[tb]) (hvars : s.vars = [])
    (hread : (f.params.toList.all fun t => P.readableRec t && decide (t < P.types.size)) = true)
    (hW : DataW.Whole enc P f.params.toList s.vars false W args.toList ds gs before)
    (hfn : s.fn H (ds ++ gs) = { results := [.lit (.bool true)], args := ds }) (hb : Below W.heap.size W W') :
    s.post enc P f false true false false W args (.bool true) W' := by
  have hW' := hW
  obtain ⟨p, q, hA, hV, hps, hfz, hnd⟩ := hW
  refine ⟨ds, gs, before, [], p, [], hW', ?_, ?_, ?_, hb.frame _, fun h => by cases h⟩
  · rw [hfn, hres]
    exact trodAll_mk1 (shut_bool ht _)
  · rw [hfn]
    exact trodAll_below hl hb _ _ _ _ (fun t ht => by have := List.all_eq_true.1 hread t ht; simpa using this) hA
  · rw [hfn, hvars]
    exact rfl

/-! what came in, opened -/
theorem word_of {x : Int} (h : (Lit.int .u64 x).wf = true) : ∃ u : UInt64, x = wd u := by
  simp [Lit.wf, IntKind.min, IntKind.max, IntKind.signed, IntKind.bits] at h
  refine ⟨UInt64.ofNat x.toNat, ?_⟩
  rw [wd_lit _ (by omega)]; omega
theorem byte_of {x : Int} (h : (Lit.int .u8 x).wf = true) : ∃ b : UInt8, x = (b.toNat : Int) := by
  simp [Lit.wf, IntKind.min, IntKind.max, IntKind.signed, IntKind.bits] at h
  refine ⟨UInt8.ofNat x.toNat, ?_⟩
  rw [UInt8.toNat_ofNat']; omega
theorem i64_of {x : Int} (h : (Lit.int .i64 x).wf = true) : -9223372036854775808 ≤ x ∧ x ≤ 9223372036854775807 := by
  simp [Lit.wf, IntKind.min, IntKind.max, IntKind.signed, IntKind.bits] at h
  omega
section
variable {w : World} {base : Nat} {spare : Nat → Bool} {held : Bool} {r : Reach} {b0 : Nat} {t : TypeId} {v : Value} {d : DataW H} {p : List MemPlace}
theorem open_word (ht : P.underlying t = some (.int .u64)) (hv : Value.okWide P w r b0 t v) (h : DataW.Trod enc P w base spare held t v d p) : ∃ u, v = .int .u64 (wd u) := by
  obtain ⟨x, rfl, _, _, hw⟩ := open_int ht hv h
  obtain ⟨u, rfl⟩ := word_of hw
  exact ⟨u, rfl⟩
theorem open_byte (ht : P.underlying t = some (.int .u8)) (hv : Value.okWide P w r b0 t v) (h : DataW.Trod enc P w base spare held t v d p) : ∃ b : UInt8, v = .int .u8 (b.toNat : Int) := by
  obtain ⟨x, rfl, _, _, hw⟩ := open_int ht hv h
  obtain ⟨u, rfl⟩ := byte_of hw
  exact ⟨u, rfl⟩
theorem open_i64 (ht : P.underlying t = some (.int .i64)) (hv : Value.okWide P w r b0 t v) (h : DataW.Trod enc P w base spare held t v d p) : ∃ x, v = .int .i64 x ∧ -9223372036854775808 ≤ x ∧ x ≤ 9223372036854775807 := by
  obtain ⟨x, rfl, _, _, hw⟩ := open_int ht hv h
  exact ⟨x, rfl, i64_of hw⟩
theorem open_str (ht : P.underlying t = some .string) (hv : Value.okWide P w r b0 t v) (h : DataW.Trod enc P w base spare held t v d p) : ∃ s, v = .string s ∧ s.size ≤ maxLen := by
  obtain ⟨s, rfl, _, _, hs⟩ := open_string ht hv h
  exact ⟨s, rfl, hs⟩
theorem weights_cons {n : Nat} {ts : List TypeId} {ds : List (DataW H)} (h : (DataW.weightsEach P (t :: ts) (d :: ds)).all (fun x => decide (x ≤ n)) = true) :
    (d.weights P t).all (fun x => decide (x ≤ n)) = true ∧ (DataW.weightsEach P ts ds).all (fun x => decide (x ≤ n)) = true := by
  simp only [DataW.weightsEach, List.all_append, Bool.and_eq_true] at h
  exact h
/-- a slice whose elements are read, one by one: each element's cells are 'enc x' -/
theorem open_list {α : Type} {e : TypeId} {sz : Nat} (cs : α → List Value) (hcs : ∀ x, (cs x).length = sz) (ht : P.underlying t = some (.slice e)) (hc : P.cellsOf e = sz)
    (hel : ∀ (n : Nat) (l : List Value) (y : DataW H × List MemPlace), DataW.trod enc P w base (fun _ => true) held n e l = some y → ∃ x, l = cs x)
    (hv : Value.okWide P w r b0 t v) (h : DataW.Trod enc P w base (fun _ => true) held t v d p) :
    ∃ l : List α, RdC w sz v l.length (l.flatMap cs) ∧ ∀ n, (d.weights P t).all (fun x => decide (x ≤ n)) = true → l.length * P.bytesOf e ≤ n := by
  obtain ⟨a, len, cap, rfl⟩ := okWide_slice ht hv
  obtain ⟨fuel, hf⟩ := h
  rcases Go.Deep.open_slice ht hf with ⟨hcs0, hx⟩ | ⟨a', len', cap', m, n, D, Pl, hcs1, hb, hl, hm, hmm, hx, hi⟩
  · simp [Value.cells] at hcs0
    obtain ⟨rfl, rfl, rfl⟩ := hcs0
    exact ⟨[], RdC.nil w sz, fun n _ => by simp⟩
  · simp [Value.cells] at hcs1
    obtain ⟨rfl, rfl, rfl⟩ := hcs1
    simp only [if_true] at hmm
    subst hmm
    have hall : ∀ k, k ≤ len → ∃ l : List α, l.length = k ∧ ∀ j u, (l.flatMap cs)[j]? = some u → w.cell? (a'.add j) = some u := by
      intro k
      induction k with
      | zero => intro _; exact ⟨[], rfl, fun j u hu => by simp at hu⟩
      | succ k ih =>
        intro hk
        obtain ⟨l, hll, hlc⟩ := ih (by omega)
        obtain ⟨c', hc1, hc2⟩ := hi k (by omega)
        obtain ⟨x, rfl⟩ := hel n c' _ hc2
        obtain ⟨_, hcl, hat⟩ := World.cells?_some hc1
        refine ⟨l ++ [x], by simp [hll], fun j u hu => ?_⟩
        have hlen : (l.flatMap cs).length = k * sz := by
          rw [List.length_flatMap]
          have : l.map (fun x => (cs x).length) = l.map (fun _ => sz) := List.map_congr_left (fun x _ => hcs x)
          rw [this, List.map_const', List.sum_replicate_nat, hll]
        rw [List.flatMap_append, List.flatMap_singleton, List.getElem?_append] at hu
        split at hu
        · exact hlc j u hu
        · rename_i hge
          have hj : j - k * sz < sz := by
            have := (List.getElem?_eq_some_iff.1 hu).1
            rw [hcs, hlen] at this; exact this
          have h2 := hat (j - k * sz) (by rw [hc]; exact hj)
          rw [hlen] at hu hge
          rw [hc, Go.Deep.add_add, show k * sz + (j - k * sz) = j by omega] at h2
          exact h2.trans hu
    obtain ⟨l, hll, hlc⟩ := hall len (Nat.le_refl _)
    subst hll
    refine ⟨l, ⟨?_, some a', m, rfl, hl, hm, (fun e => by cases e), fun ad had => by cases had; exact hlc⟩, fun q hq => ?_⟩
    · rw [List.length_flatMap]
      have : l.map (fun x => (cs x).length) = l.map (fun _ => sz) := List.map_congr_left (fun x _ => hcs x)
      rw [this, List.map_const', List.sum_replicate_nat]
    · have hd : d = .slice ((List.range l.length).map D) ((List.range (m - l.length)).map fun j => D (l.length + j)) := (Prod.mk.injEq .. ▸ hx).1
      rw [hd] at hq
      simp only [DataW.weights, ht, List.all_cons, Bool.and_eq_true, decide_eq_true_eq, List.length_map, List.length_range] at hq
      exact Nat.le_trans (Nat.mul_le_mul_right _ (Nat.le_add_right _ _)) hq.1
theorem word_cells {e : TypeId} (ht : P.underlying e = some (.int .u64)) (n : Nat) (l : List Value) (y : DataW H × List MemPlace) (h : DataW.trod enc P w base (fun _ => true) held n e l = some y) : ∃ x : UInt64, l = [u64 x] := by
  obtain ⟨x, rfl, _, hw⟩ := DataW.trod_int ht h
  obtain ⟨u, rfl⟩ := word_of hw
  exact ⟨u, rfl⟩
theorem word_flat (l : List UInt64) : l.flatMap (fun u => [u64 u]) = l.map u64 := by induction l <;> simp_all
end
end
end Go.Proofs.YtleoeccjnchclaaGreatDoor
namespace Go.Proofs.YtleoeccjnchclaaGreatDoor
open Go.ChangeShapes Go.WideShapes Go.ChangeAt Go.RowKit Go.Deep

/-- a step as it comes in -/
structure So where
  who : Int
  do_ : Int
  ses : Int
  key : ByteArray
  text : ByteArray
  big : Int
def soCells (o : So) : List Value := [.int .i64 o.who, .int .i64 o.do_, .int .i64 o.ses, .string o.key, .string o.text, .int .i64 o.big]
section
variable {H : Type} {enc : TypeId × Value → H} {P : Program} {w : World} {base : Nat} {spare : Nat → Bool} {held : Bool}
theorem struct_readD {t : TypeId} {fs : Array Field} {fuel : Nat} {cs : List Value} {x : DataW H × List MemPlace} (he : P.underlying t = some (.struct fs)) (hone : oneCellFields P fs = true) (hC : P.cellsOf t = fs.size)
    (h : DataW.trod enc P w base spare held fuel t cs = some x) :
    cs.length = fs.size ∧ ∀ (j : Nat) (f : Field), fs[j]? = some f → ∃ (v : Value) (n : Nat) (y : DataW H × List MemPlace), cs[j]? = some v ∧ DataW.trod enc P w base spare held n f.type [v] = some y := by
  obtain ⟨ys, n', hn', hy, hlen, hyl, hf⟩ := DataW.trod_struct he h
  rw [hC] at hlen
  refine ⟨hlen, fun j f hj => ?_⟩
  obtain ⟨ho, hk⟩ := hone_of hone j f hj
  have hjl : j < fs.size := (Array.getElem?_eq_some_iff.1 hj).1
  have h1 := hf j f hj
  rw [ho, hk] at h1
  have hone' : (cs.drop j).take 1 = [cs[j]'(by omega)] := by
    rw [List.drop_eq_getElem_cons (by omega)]
    rfl
  rw [hone'] at h1
  have hys : ys[j]? = some (ys[j]'(by omega)) := List.getElem?_eq_getElem (by omega)
  exact ⟨_, n', _, List.getElem?_eq_getElem (by omega), h1.trans hys⟩
end
theorem flat_atD {α : Type} (f : α → List Value) (n : Nat) (hf : ∀ x, (f x).length = n) (l : List α) (k j : Nat) (hk : k < l.length) (hj : j < n) : (l.flatMap f)[k * n + j]? = (f l[k])[j]? := by
  induction l generalizing k with
  | nil => simp at hk
  | cons x l ih =>
    rw [List.flatMap_cons]
    cases k with
    | zero =>
      rw [Nat.zero_mul, Nat.zero_add, List.getElem?_append_left (by rw [hf]; exact hj)]
      rfl
    | succ k =>
      have := ih k (by simpa using hk)
      rw [List.getElem?_append_right (by rw [hf, Nat.succ_mul]; omega), hf, show (k + 1) * n + j - n = k * n + j by rw [Nat.succ_mul]; omega]
      exact this

/-- a step whose numbers and texts are Go's -/
abbrev SoB := { o : So // (Lit.int .i64 o.ses).wf = true ∧ o.key.size ≤ maxLen ∧ o.text.size ≤ maxLen ∧ (Lit.int .i64 o.big).wf = true }
def sob (o : SoB) : List Value := soCells o.1
theorem sob_len (o : SoB) : (sob o).length = 6 := rfl
section
variable {H : Type} {enc : TypeId × Value → H} {w : World} {base : Nat} {held : Bool}
theorem so_read (n : Nat) (l : List Value) (y : DataW H × List MemPlace) (h : DataW.trod enc Tryz.prog w base (fun _ => true) held n 28 l = some y) : ∃ x : SoB, l = sob x := by
  obtain ⟨hl, hf⟩ := struct_readD Tryz.underlying28 (by kernel_rfl) (by kernel_rfl) h
  match l, hl with
  | [c0, c1, c2, c3, c4, c5], _ =>
    obtain ⟨v0, n0, y0, e0, t0⟩ := hf 0 _ rfl
    obtain ⟨v1, n1, y1, e1, t1⟩ := hf 1 _ rfl
    obtain ⟨v2, n2, y2, e2, t2⟩ := hf 2 _ rfl
    obtain ⟨v3, n3, y3, e3, t3⟩ := hf 3 _ rfl
    obtain ⟨v4, n4, y4, e4, t4⟩ := hf 4 _ rfl
    obtain ⟨v5, n5, y5, e5, t5⟩ := hf 5 _ rfl
    cases e0; cases e1; cases e2; cases e3; cases e4; cases e5
    obtain ⟨x0, g0, _, _⟩ := DataW.trod_int Tryz.underlying3 t0
    obtain ⟨x1, g1, _, _⟩ := DataW.trod_int Tryz.underlying3 t1
    obtain ⟨x2, g2, _, hw⟩ := DataW.trod_int Tryz.underlying3 t2
    obtain ⟨x3, g3, _, hs⟩ := DataW.trod_string Tryz.underlying9 t3
    obtain ⟨x4, g4, _, hs4⟩ := DataW.trod_string Tryz.underlying9 t4
    obtain ⟨x5, g5, _, hw5⟩ := DataW.trod_int Tryz.underlying3 t5
    cases g0; cases g1; cases g2; cases g3; cases g4; cases g5
    exact ⟨⟨⟨x0, x1, x2, x3, x4, x5⟩, hw, hs, hs4, hw5⟩, rfl⟩
end
/-- the cells of step k of a script -/
theorem so_at {w : World} {a : Option Addr} {n cap : Nat} {l : List SoB} (h : RdC w 6 (.slice a n cap) n (l.flatMap sob)) (k : Nat) (hk : k < l.length) :
    ∃ g off, a = some ⟨g, off, none⟩ ∧ w.cell? ⟨g, off + k * 6, none⟩ = some (.int .i64 l[k].1.who) ∧ w.cell? ⟨g, off + k * 6 + 1, none⟩ = some (.int .i64 l[k].1.do_) ∧ w.cell? ⟨g, off + k * 6 + 2, none⟩ = some (.int .i64 l[k].1.ses) ∧
      w.cell? ⟨g, off + k * 6 + 3, none⟩ = some (.string l[k].1.key) ∧ w.cell? ⟨g, off + k * 6 + 4, none⟩ = some (.string l[k].1.text) ∧ w.cell? ⟨g, off + k * 6 + 5, none⟩ = some (.int .i64 l[k].1.big) := by
  have hf := fun j hj => flat_atD sob 6 sob_len l k j hk hj
  have hpos : 0 < (l.flatMap sob).length := by
    have := hf 0 (by decide)
    have h2 : (sob l[k])[0]? = some (.int .i64 l[k].1.who) := rfl
    rw [h2] at this
    have := (List.getElem?_eq_some_iff.1 this).1
    omega
  obtain ⟨g, off, rfl, hc⟩ := h.at hpos
  refine ⟨g, off, rfl, ?_, ?_, ?_, ?_, ?_, ?_⟩
  · exact hc (k * 6 + 0) _ (by rw [hf 0 (by decide)]; rfl)
  · rw [Nat.add_assoc]; exact hc (k * 6 + 1) _ (by rw [hf 1 (by decide)]; rfl)
  · rw [Nat.add_assoc]; exact hc (k * 6 + 2) _ (by rw [hf 2 (by decide)]; rfl)
  · rw [Nat.add_assoc]; exact hc (k * 6 + 3) _ (by rw [hf 3 (by decide)]; rfl)
  · rw [Nat.add_assoc]; exact hc (k * 6 + 4) _ (by rw [hf 4 (by decide)]; rfl)
  · rw [Nat.add_assoc]; exact hc (k * 6 + 5) _ (by rw [hf 5 (by decide)]; rfl)
end Go.Proofs.YtleoeccjnchclaaGreatDoor
namespace Go.Proofs.YtleoeccjnchclaaGreatDoor
open Go.ChangeShapes Go.WideShapes Go.ChangeAt Go.RowKit Go.Deep
section
variable {H : Type} {enc : TypeId × Value → H} {P : Program} {w : World} {base : Nat} {spare : Nat → Bool} {held : Bool} {r : Reach} {b0 : Nat} {t e : TypeId} {v : Value} {d : DataW H} {p : List MemPlace}
theorem weightsAll_mem {n : Nat} {l : List (DataW H)} (h : (DataW.weightsAll P e l).all (fun x => decide (x ≤ n)) = true) {y : DataW H} (hy : y ∈ l) : (y.weights P e).all (fun x => decide (x ≤ n)) = true := by
  induction l with
  | nil => cases hy
  | cons x l ih =>
    simp only [DataW.weightsAll, List.all_append, Bool.and_eq_true] at h
    rcases List.mem_cons.1 hy with rfl | hy
    · exact h.1
    · exact ih h.2 hy
theorem weightsEach_at {n : Nat} {ts : List TypeId} {ds : List (DataW H)} (h : (DataW.weightsEach P ts ds).all (fun x => decide (x ≤ n)) = true) {j : Nat} {u : TypeId} {y : DataW H} (hu : ts[j]? = some u) (hy : ds[j]? = some y) : (y.weights P u).all (fun x => decide (x ≤ n)) = true := by
  induction ts generalizing ds j with
  | nil => simp at hu
  | cons t ts ih =>
    cases ds with
    | nil => simp at hy
    | cons d ds =>
      simp only [DataW.weightsEach, List.all_append, Bool.and_eq_true] at h
      cases j with
      | zero => cases hu; cases hy; exact h.1
      | succ j => exact ih h.2 (by simpa using hu) (by simpa using hy)
/-- a slice opened, each element with its datum, and the data's weights -/
theorem open_listW {α : Type} {sz : Nat} (cs : α → List Value) (Q : α → DataW H → Prop) (hcs : ∀ x, (cs x).length = sz) (ht : P.underlying t = some (.slice e)) (hc : P.cellsOf e = sz)
    (hel : ∀ (n : Nat) (l : List Value) (y : DataW H × List MemPlace), DataW.trod enc P w base (fun _ => true) held n e l = some y → ∃ x, l = cs x ∧ Q x y.1)
    (hv : Value.okWide P w r b0 t v) (h : DataW.Trod enc P w base (fun _ => true) held t v d p) :
    ∃ l : List α, RdC w sz v l.length (l.flatMap cs) ∧ ∀ n, (d.weights P t).all (fun x => decide (x ≤ n)) = true → l.length * P.bytesOf e ≤ n ∧ ∀ x ∈ l, ∃ d', Q x d' ∧ (d'.weights P e).all (fun x => decide (x ≤ n)) = true := by
  obtain ⟨a, len, cap, rfl⟩ := okWide_slice ht hv
  obtain ⟨fuel, hf⟩ := h
  rcases Go.Deep.open_slice ht hf with ⟨hcs0, hx⟩ | ⟨a', len', cap', m, n, D, Pl, hcs1, hb, hl, hm, hmm, hx, hi⟩
  · simp [Value.cells] at hcs0
    obtain ⟨rfl, rfl, rfl⟩ := hcs0
    exact ⟨[], RdC.nil w sz, fun n _ => ⟨by simp, fun x hx => by cases hx⟩⟩
  · simp [Value.cells] at hcs1
    obtain ⟨rfl, rfl, rfl⟩ := hcs1
    simp only [if_true] at hmm
    subst hmm
    have hd : d = .slice ((List.range len).map D) ((List.range (m - len)).map fun j => D (len + j)) := (Prod.mk.injEq .. ▸ hx).1
    have hall : ∀ k, k ≤ len → ∃ l : List α, l.length = k ∧ (∀ j u, (l.flatMap cs)[j]? = some u → w.cell? (a'.add j) = some u) ∧ ∀ x ∈ l, ∃ i, i < len ∧ Q x (D i) := by
      intro k
      induction k with
      | zero => intro _; exact ⟨[], rfl, fun j u hu => by simp at hu, fun x hx => by cases hx⟩
      | succ k ih =>
        intro hk
        obtain ⟨l, hll, hlc, hlq⟩ := ih (by omega)
        obtain ⟨c', hc1, hc2⟩ := hi k (by omega)
        obtain ⟨x, rfl, hq⟩ := hel n c' _ hc2
        obtain ⟨_, hcl, hat⟩ := World.cells?_some hc1
        refine ⟨l ++ [x], by simp [hll], fun j u hu => ?_, fun y hy => ?_⟩
        · have hlen : (l.flatMap cs).length = k * sz := by
            rw [List.length_flatMap]
            have : l.map (fun x => (cs x).length) = l.map (fun _ => sz) := List.map_congr_left (fun x _ => hcs x)
            rw [this, List.map_const', List.sum_replicate_nat, hll]
          rw [List.flatMap_append, List.flatMap_singleton, List.getElem?_append] at hu
          split at hu
          · exact hlc j u hu
          · rename_i hge
            have hj : j - k * sz < sz := by
              have := (List.getElem?_eq_some_iff.1 hu).1
              rw [hcs, hlen] at this; exact this
            have h2 := hat (j - k * sz) (by rw [hc]; exact hj)
            rw [hlen] at hu hge
            rw [hc, Go.Deep.add_add, show k * sz + (j - k * sz) = j by omega] at h2
            exact h2.trans hu
        · rcases List.mem_append.1 hy with hy | hy
          · exact hlq y hy
          · rw [List.mem_singleton.1 hy]; exact ⟨k, by omega, hq⟩
    obtain ⟨l, hll, hlc, hlq⟩ := hall len (Nat.le_refl _)
    subst hll
    refine ⟨l, ⟨?_, some a', m, rfl, hl, hm, (fun e => by cases e), fun ad had => by cases had; exact hlc⟩, fun q hq => ?_⟩
    · rw [List.length_flatMap]
      have : l.map (fun x => (cs x).length) = l.map (fun _ => sz) := List.map_congr_left (fun x _ => hcs x)
      rw [this, List.map_const', List.sum_replicate_nat]
    · rw [hd] at hq
      simp only [DataW.weights, ht, List.all_cons, List.all_append, Bool.and_eq_true, decide_eq_true_eq, List.length_map, List.length_range] at hq
      refine ⟨Nat.le_trans (Nat.mul_le_mul_right _ (Nat.le_add_right _ _)) hq.1, fun x hx => ?_⟩
      obtain ⟨i, hi2, hq2⟩ := hlq x hx
      exact ⟨D i, hq2, weightsAll_mem hq.2.1 (List.mem_map.2 ⟨i, List.mem_range.2 hi2, rfl⟩)⟩
end
section
variable {H : Type} {enc : TypeId × Value → H} {w : World} {base : Nat} {held : Bool}
/-- the op's name is of a size that is told by its weight -/
def OpW (x : SoB) (d : DataW H) : Prop := ∀ n, (d.weights Tryz.prog 28).all (fun x => decide (x ≤ n)) = true → x.1.key.size ≤ n
theorem text_weight {P : Program} {t s : TypeId} {fs : Array Field} {fuel : Nat} {cs : List Value} {x : DataW H × List MemPlace} {j : Nat} {b : ByteArray} (hst : P.underlying s = some .string) (he : P.underlying t = some (.struct fs)) (hone : oneCellFields P fs = true)
    (hj : (fs[j]?).map (·.type) = some s) (h : DataW.trod enc P w base (fun _ => true) held fuel t cs = some x) (hc : (cs.drop j).take 1 = [.string b]) (n : Nat) (hw : (x.1.weights P t).all (fun x => decide (x ≤ n)) = true) : b.size ≤ n := by
  obtain ⟨f, hf2, hft⟩ := Option.map_eq_some_iff.1 hj
  obtain ⟨ys, n', hn', hy, hlen, hyl, hf⟩ := DataW.trod_struct he h
  have h2 := hf j f hf2
  obtain ⟨ho, hk⟩ := hone_of hone j f hf2
  rw [ho, hk, hft, hc] at h2
  have hys : ys[j]? = some (ys[j]'(by have := (Array.getElem?_eq_some_iff.1 hf2).1; omega)) := List.getElem?_eq_getElem _
  obtain ⟨s, g, hz, _⟩ := DataW.trod_string hst (h2.trans hys)
  cases g
  rw [hy] at hw
  simp only [DataW.weights, he] at hw
  have h4 := weightsEach_at hw (j := j) (y := .lit (.string b.data.toList)) (by rw [List.getElem?_map, Array.getElem?_toList, hf2, Option.map_some, hft]) (by rw [List.getElem?_map, hys, Option.map_some, hz])
  simp only [DataW.weights, List.all_cons, List.all_nil, Bool.and_true, decide_eq_true_eq] at h4
  exact h4
theorem so_readW (n : Nat) (l : List Value) (y : DataW H × List MemPlace) (h : DataW.trod enc Tryz.prog w base (fun _ => true) held n 28 l = some y) : ∃ x : SoB, l = sob x ∧ OpW x y.1 := by
  obtain ⟨x, rfl⟩ := so_read n l y h
  exact ⟨x, rfl, fun q hq => text_weight (j := 3) Tryz.underlying9 Tryz.underlying28 (by kernel_rfl) rfl h rfl q hq⟩
end
end Go.Proofs.YtleoeccjnchclaaGreatDoor
