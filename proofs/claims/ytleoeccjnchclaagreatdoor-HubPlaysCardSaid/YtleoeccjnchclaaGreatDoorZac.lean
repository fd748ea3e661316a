/- Small laws on memory: what a slice that is read holds; what a call may have written; append from whatever slice. No condition but sizes. -/
import Derived.WalkKit
import Derived.WalkSpells
import Derived.Lib.Hide
import Derived.Carry
import Derived.Lib.ConvBytes
import Derived.Laws.IdiomStrings
namespace Go.Proofs.YtleoeccjnchclaaGreatDoor
open Go.RowKit

/-- Only blocks of S, and new ones, may have turned. -/
structure Fr (S : Nat → Prop) (w w' : World) : Prop where
  os : w'.os = w.os
  tape : w'.tape = w.tape
  output : w'.output = w.output
  size : w.heap.size ≤ w'.heap.size
  block : ∀ k, k < w.heap.size → ¬ S k → w'.heap[k]? = w.heap[k]?

theorem Fr.refl (S : Nat → Prop) (w : World) : Fr S w w := ⟨rfl, rfl, rfl, Nat.le_refl _, fun _ _ _ => rfl⟩
theorem Fr.trans {S T : Nat → Prop} {a b c : World} (h : Fr S a b) (k : Fr T b c) (hT : ∀ i, T i → i < a.heap.size → S i) : Fr S a c :=
  ⟨k.os.trans h.os, k.tape.trans h.tape, k.output.trans h.output, Nat.le_trans h.size k.size,
    fun i hi hn => (k.block i (Nat.lt_of_lt_of_le hi h.size) (fun ht => hn (hT i ht hi))).trans (h.block i hi hn)⟩
theorem Fr.mono {S T : Nat → Prop} {w w' : World} (h : Fr S w w') (hS : ∀ i, S i → i < w.heap.size → T i) : Fr T w w' :=
  ⟨h.os, h.tape, h.output, h.size, fun k hk hn => h.block k hk (fun hs => hn (hS k hs hk))⟩
theorem Fr.below {S : Nat → Prop} {w w' : World} (h : Fr S w w') {B : Nat} (hB : B ≤ w.heap.size) (hS : ∀ i, S i → B ≤ i) : Below B w w' :=
  ⟨h.os, h.tape, h.output, h.size, fun k hk => h.block k (by omega) (fun hs => by have := hS k hs; omega)⟩
theorem Fr.of_below {w w' : World} {B : Nat} (h : Below B w w') : Fr (fun k => B ≤ k) w w' :=
  ⟨h.os, h.tape, h.output, h.size, fun k _ hn => h.block k (by omega)⟩
theorem Fr.of_grownBy {w w' : World} {row : Option Nat} (h : w.grownBy w' row) : Fr (fun k => row = some k) w w' :=
  ⟨h.os, h.tape, h.output, h.size, fun k hk hn => h.block k hk (fun e => hn e.symm)⟩
theorem Fr.cell {S : Nat → Prop} {w w' : World} (h : Fr S w w') {a : Addr} {v : Value} (hc : w.cell? a = some v) (hS : ¬ S a.block) : w'.cell? a = some v :=
  (World.cell?_of_block (h.block a.block (World.block_lt_of_cell? w a hc) hS)).trans hc
theorem Fr.alloc (S : Nat → Prop) (w : World) (o : Obj) : Fr S w (w.alloc o) :=
  ⟨rfl, rfl, rfl, by simp, fun k hk _ => Below.heap_alloc w o k hk⟩
theorem Fr.drew (S : Nat → Prop) (w : World) : Fr S w w.drew := ⟨rfl, rfl, rfl, Nat.le_refl _, fun _ _ _ => rfl⟩
theorem Fr.setCell (w : World) (a : Addr) (u : Value) : Fr (fun k => k = a.block) w (w.setCell a u) :=
  ⟨rfl, rfl, rfl, by simp, fun k _ hn => Below.heap_setCell w a u k hn⟩

/-- A slice value of n elements, sz cells each, whose cells read xs. -/
def RdC (w : World) (sz : Nat) (v : Value) (n : Nat) (xs : List Value) : Prop :=
  xs.length = n * sz ∧ ∃ a cap, v = .slice a n cap ∧ n ≤ cap ∧ cap ≤ maxLen ∧ (a = none → n = 0 ∧ cap = 0) ∧ ∀ ad, a = some ad → ∀ j u, xs[j]? = some u → w.cell? (ad.add j) = some u

theorem RdC.nil (w : World) (sz : Nat) : RdC w sz (.slice none 0 0) 0 [] :=
  ⟨by simp, none, 0, rfl, Nat.le_refl _, Nat.zero_le _, fun _ => ⟨rfl, rfl⟩, fun ad h => by cases h⟩
theorem RdC.of_owns {w : World} {base : Nat} {e : TypeId} {sz : Nat} {v : Value} {n : Nat} {xs : List Value} (h : w.ownsRow base e sz v n xs) : RdC w sz v n xs := by
  have h0 := h
  rcases h.2 with ⟨rfl, rfl⟩ | ⟨g, cap, cur, rfl, hb, hg, hnc, hcm, hcs, htake⟩
  · have : xs = [] := by have := h.1; simp at this; exact this
    subst this
    exact RdC.nil w sz
  · refine ⟨h.1, some ⟨g, 0, none⟩, cap, rfl, hnc, hcm, (fun h => by cases h), fun ad had j u hu => ?_⟩
    cases had
    exact h0.cells rfl j u hu
theorem owns_slice {w : World} {base : Nat} {e : TypeId} {sz : Nat} {v : Value} {n : Nat} {xs : List Value} (h : w.ownsRow base e sz v n xs) : ∃ a cap, v = .slice a n cap := by
  rcases h.2 with ⟨rfl, rfl⟩ | ⟨g, cap, cur, rfl, _⟩
  · exact ⟨_, _, rfl⟩
  · exact ⟨_, _, rfl⟩
theorem RdC.fr {w w' : World} {S : Nat → Prop} {sz : Nat} {v : Value} {n : Nat} {xs : List Value} (h : RdC w sz v n xs) (hf : Fr S w w') (hS : ∀ g, v.ownBlock = some g → ¬ S g) : RdC w' sz v n xs := by
  obtain ⟨h1, a, cap, rfl, h2, h3, h4, h5⟩ := h
  refine ⟨h1, a, cap, rfl, h2, h3, h4, fun ad had j u hu => ?_⟩
  subst had
  refine hf.cell (h5 ad rfl j u hu) ?_
  have : (ad.add j).block = ad.block := by unfold Addr.add; split <;> rfl
  rw [this]
  exact hS _ rfl
theorem RdC.below {w w' : World} {sz : Nat} {v : Value} {n : Nat} {xs : List Value} (h : RdC w sz v n xs) (hf : Below w.heap.size w w') : RdC w' sz v n xs := by
  obtain ⟨h1, a, cap, rfl, h2, h3, h4, h5⟩ := h
  refine ⟨h1, a, cap, rfl, h2, h3, h4, fun ad had j u hu => ?_⟩
  have hc := h5 ad had j u hu
  exact (hf.cell (World.block_lt_of_cell? w _ hc)).trans hc
theorem RdC.len {w : World} {sz : Nat} {v : Value} {n : Nat} {xs : List Value} (h : RdC w sz v n xs) : n ≤ maxLen := by
  obtain ⟨h1, a, cap, rfl, h2, h3, h4, h5⟩ := h
  omega
/-- an element's cells, at an address as the walk spells it -/
theorem RdC.at {w : World} {sz : Nat} {a : Option Addr} {n cap : Nat} {xs : List Value} (h : RdC w sz (.slice a n cap) n xs) (hpos : 0 < xs.length) :
    ∃ g off, a = some ⟨g, off, none⟩ ∧ ∀ j u, xs[j]? = some u → w.cell? ⟨g, off + j, none⟩ = some u := by
  obtain ⟨h1, a', cap', he, h2, h3, h4, h5⟩ := h
  cases he
  cases a with
  | none => have := (h4 rfl).1; subst this; simp at h1; subst h1; simp at hpos
  | some ad =>
    obtain ⟨g, off, spot⟩ := ad
    have h0 := h5 _ rfl 0 xs[0] (by simp)
    have hsp : spot = none := by
      have := World.cell?_spot h0
      simpa [Addr.add] using this
    subst hsp
    refine ⟨g, off, rfl, fun j u hu => ?_⟩
    have := h5 _ rfl j u hu
    rwa [Addr.add_lit] at this

def u8 (b : UInt8) : Value := .int .u8 b.toNat
theorem RdC.set {w : World} {g off n cap k : Nat} {xs : List Value} (h : RdC w 1 (.slice (some ⟨g, off, none⟩) n cap) n xs) (hk : k < n) (u : Value) : RdC (w.setCell ⟨g, off + k, none⟩ u) 1 (.slice (some ⟨g, off, none⟩) n cap) n (xs.set k u) := by
  obtain ⟨h1, a', cap', he, h2, h3, h4, h5⟩ := h
  cases he
  refine ⟨by simpa using h1, some ⟨g, off, none⟩, cap, rfl, h2, h3, (fun e => by cases e), fun ad had j x hx => ?_⟩
  cases had
  rw [Addr.add_lit]
  rw [List.getElem?_set] at hx
  by_cases hjk : k = j
  · subst hjk
    rw [if_pos rfl] at hx
    have hx2 : u = x := by
      split at hx
      · exact Option.some.inj hx
      · cases hx
    subst hx2
    have hlt : k < xs.length := by omega
    have := h5 _ rfl k xs[k] (by simp)
    rw [Addr.add_lit] at this
    exact World.cell?_setCell_same _ _ _ this
  · rw [if_neg hjk] at hx
    have := h5 _ rfl j x hx
    rw [Addr.add_lit] at this
    rw [World.cell?_setCell_other _ _ _ _ (by intro e; injection e; omega)]
    exact this

/-- the slice behind its first element (one cell each) -/
theorem RdC.tail {w : World} {g off n cap : Nat} {x : Value} {xs : List Value} (h : RdC w 1 (.slice (some ⟨g, off, none⟩) (n + 1) cap) (n + 1) (x :: xs)) (a : Option Addr) (c : Nat) (hcc : c = cap - 1) (ha : a = some ⟨g, off + 1, none⟩ ∨ n = 0 ∧ a.isSome = true) : RdC w 1 (.slice a n c) n xs := by
  subst hcc
  have hc := h.at (by simp)
  obtain ⟨g', off', he, hcells⟩ := hc
  cases he
  obtain ⟨h1, a', cap', he, h2, h3, h4, h5⟩ := h
  cases he
  refine ⟨by simpa using h1, a, cap - 1, rfl, by omega, by omega, ?_, fun ad had j u hu => ?_⟩
  · intro e; subst e; rcases ha with ha | ⟨rfl, ha⟩
    · cases ha
    · cases ha
  · rcases ha with ha | ⟨rfl, _⟩
    · rw [ha] at had
      cases had
      have := hcells (j + 1) u (by simpa using hu)
      rw [Addr.add_lit]
      rw [show off + 1 + j = off + (j + 1) by omega]
      exact this
    · have : xs = [] := by simpa using h1
      subst this; simp at hu

section
variable {P : Program} {w : World} {ops : Array Oper} {rest : List Oper} {o : Oper} {a : Act} {Q : Exit → Act → World → Prop}
/-- append(s, x...) onto a slice of the call's own, from whatever slice that reads 'news'. -/
theorem wpl_append (hgd : o.guard = none) (s x : Operand) (t : TypeId) (ho : o.op = .call { callee := .builtin .append, args := #[s, x], argTypes := #[t, t] })
    (base : Nat) (e : TypeId) (i : TypeInfo) (z : Value) (size bytes : Nat) (ht : P.underlying t = some (.slice e)) (hi : P.info? e = some i) (hz : i.zero = some z)
    (hsize : i.size = size) (hby : i.bytes = bytes) (hzs : z.cells.size = size) (hsz : 0 < size)
    (v : Value) (n : Nat) (xs : List Value) (hs : a.eval s = v) (hown : w.ownsRow base e size v n xs)
    (xv : Value) (m : Nat) (news : List Value) (hx : a.eval x = xv) (hrd : RdC w size xv m news) (h1 : ∀ u ∈ news, u.oneCell' = true)
    (h63 : n + m ≤ maxLen) (hbytes : (n + m) * bytes ≤ 140737488355328) (hbase : base ≤ w.heap.size)
    (h : ∀ v' w', w'.ownsRow base e size v' (n + m) (xs ++ news) → w.grownBy w' v.ownBlock → wpList P ops Q rest (a.put o.dst v') w') : wpList P ops Q (o :: rest) a w := by
  obtain ⟨hl, ad, cap, hxv, hmc, hcm, hnil, hcells⟩ := hrd
  cases ad with
  | some ad =>
    exact wpList_append_own _ hgd s x t ho base e i z size bytes ht hi hz hsize hby hzs hsz v n xs hs hown ad m cap news (hx.trans hxv) hl (hcells ad rfl) h1 h63 hbytes hbase fun v' w' h2 h3 _ => h v' w' h2 h3
  | none =>
    obtain ⟨rfl, rfl⟩ := hnil rfl
    have hn0 : news = [] := by simpa using hl
    subst hn0
    refine wpList_plain hgd fun K hK => ?_
    have hrun := run_append_owned_none (P := P) (w := w) (base := base) t o.type e i size ht hi v n xs hown
    have hg := h v w (by simpa using hown) ⟨rfl, rfl, rfl, Nat.le_refl _, fun _ _ _ => rfl⟩
    have he : a.eval x = .slice none 0 0 := hx.trans hxv
    unfold Oper.wp
    simp [execOp, ho, resolve, invoke, builtin, hs, he, hrun, Result.andThen]
    exact hK _ _ hg

/-- one operation that computes a value -/
theorem wpl_value (hgd : o.guard = none) {v : Value} {w' : World} (hrun : (execOp a.eval o).run P w = .ok (.value v) w') (h : wpList P ops Q rest (a.put o.dst v) w') : wpList P ops Q (o :: rest) a w := by
  refine wpList_plain hgd fun K hK => ?_
  unfold Oper.wp
  rw [hrun, Oper.upon_value]
  exact hK _ _ h

/-- '[]byte(s)': a new row that holds the bytes. -/
theorem wpl_toBytes (hgd : o.guard = none) (x : Operand) (src dst e : TypeId) (ho : o.op = .convert src dst x) (s : ByteArray) (hx : a.eval x = .string s) (hsz : s.size ≤ maxLen)
    (hs : P.underlying src = some .string) (hd : P.underlying dst = some (.slice e)) (he : P.underlying e = some (.int .u8))
    (h : ∀ cap w', Hid (RdC w' 1 (.slice (some ⟨w.heap.size, 0, none⟩) s.size cap) s.size (s.data.toList.map u8)) → Hid (∀ j, j < s.size → w'.frozen? ⟨w.heap.size, j, none⟩ = false) → Fr (fun _ => False) w w' → w.heap.size < w'.heap.size →
      wpList P ops Q rest (a.put o.dst (.slice (some ⟨w.heap.size, 0, none⟩) s.size cap)) w') : wpList P ops Q (o :: rest) a w := by
  have hrun := Lib.run_convert_string_bytes (P := P) w src dst e s hs hd he
  have hlen : s.data.toList.length = s.size := by simp
  refine wpl_value hgd (v := .slice (some ⟨w.heap.size, 0, none⟩) s.size (grownCap w s.size 0 e)) (w' := Lib.bytesWorld w e s) (by simp [execOp, ho, hx, hrun, Result.andThen]) (h _ _ ?_ ?_ ?_ ?_)
  · refine ⟨by simp, some ⟨w.heap.size, 0, none⟩, _, rfl, grownCap_ge _ _ _ _, grownCap_le_maxLen _ _ _ _ hsz, (fun e => by cases e), fun ad had j u hu => ?_⟩
    cases had
    have hj : j < s.size := by have := (List.getElem?_eq_some_iff.1 hu).1; simpa using this
    rw [Addr.add_lit, Nat.zero_add, Lib.bytesWorld_cell w e s j hj]
    rw [List.getElem?_map, List.getElem?_eq_getElem (by omega)] at hu
    simp only [Option.map_some, Option.some.injEq] at hu
    rw [← hu, u8, List.getD_eq_getElem?_getD, List.getElem?_eq_getElem (by omega)]
    rfl
  · intro j hj
    have hn := Lib.bytesWorld_at_new w e s
    have hsz2 : s.size ≤ (Lib.bytesCells w e s).size := by simp [Lib.bytesCells]
    simp only [World.frozen?, hn]
    simp; omega
  · exact ⟨rfl, rfl, rfl, by rw [Lib.bytesWorld_size]; omega, fun k hk _ => Lib.bytesWorld_at_old w e s k hk⟩
  · rw [Lib.bytesWorld_size]; omega

/-- 'string(b)' -/
theorem wpl_toString (hgd : o.guard = none) (x : Operand) (src dst e : TypeId) (ho : o.op = .convert src dst x) (v : Value) (l : List UInt8) (hx : a.eval x = v)
    (hs : P.underlying src = some (.slice e)) (hd : P.underlying dst = some .string) (he : P.underlying e = some (.int .u8)) (hr : RdC w 1 v l.length (l.map u8))
    (h : wpList P ops Q rest (a.put o.dst (.string ⟨l.toArray⟩)) w) : wpList P ops Q (o :: rest) a w := by
  obtain ⟨h1, ad, cap, rfl, h2, h3, h4, h5⟩ := hr
  cases ad with
  | none =>
    have hn := (h4 rfl).1
    have : l = [] := by simpa using hn
    subst this
    have hrun := run_convert_bytes_nil (P := P) (w := w) src e hs he 0 cap dst hd
    exact wpl_value hgd (by simp [execOp, ho, hx, hrun, Result.andThen]; rfl) h
  | some ad =>
    have hrun := run_convert_bytes_back (P := P) w src dst e ad cap l hs he hd (fun j hj => h5 ad rfl j _ (by rw [List.getElem?_map, List.getElem?_eq_getElem hj]; rfl))
    exact wpl_value hgd (by simp [execOp, ho, hx, hrun, Result.andThen]) h
end
end Go.Proofs.YtleoeccjnchclaaGreatDoor
