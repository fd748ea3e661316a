/- The inner functions of layer 6's statements: among, few, change. No condition. -/
import Derived.Test.YtkecipdonamjaaaScanB
import Derived.Test.YtkecipdonamjaaaSteps
namespace Go.Proofs.Ytkecipdonamjaaa
open Go.ChangeShapes Go.WideShapes Go.ChangeAt Go.RowKit Di
/-- is a text among others? -/
def inL (l : List ByteArray) (s : ByteArray) : Bool := l.any fun x => decide (x = s)
theorem inL_iff {l : List ByteArray} {s : ByteArray} : inL l s = true ↔ s ∈ l := by
  unfold inL
  rw [List.any_eq_true]
  exact ⟨fun ⟨x, hx, he⟩ => by rw [← of_decide_eq_true he]; exact hx, fun h => ⟨s, h, decide_eq_true rfl⟩⟩
theorem inL_not {l : List ByteArray} {s : ByteArray} : inL l s = false ↔ s ∉ l := by rw [← Bool.not_eq_true, inL_iff]
set_option maxRecDepth 100000 in
theorem among_any (w : World) (v : Value) (l : List ByteArray) (s : ByteArray) (h : RdC w 1 v l.length (l.map .string)) :
    Calls Try.prog 58 #[v, .string s] w fun e w' => e = .returned (.bool (inL l s)) ∧ w = w' := by
  have hm := h.len
  unfold maxLen at hm
  have H1 := Lib.hid h
  obtain ⟨-, a1, c1, rfl, -⟩ := h
  go_enter Try.func58, Try.ntmps58
  go_wp2
  go_loopw [5] (fun i wr => ∃ k : Nat, i = .int .i64 k ∧ k ≤ l.length ∧ Hid (w = wr) ∧ Hid (s ∉ l.take k)) (fun i _ => l.length - (intOf i).toNat)
  case atStart => exact ⟨0, rfl, by omega, rfl, (show s ∉ [] from List.not_mem_nil)⟩
  case round =>
    obtain ⟨k, rfl, hk, HW, HE⟩ := hrel
    by_cases hlt : k < l.length
    · obtain ⟨g1, o1, rfl, c1⟩ := texts_at H1.out k hlt
      rw [HW.out] at c1
      obtain ⟨x, hx⟩ : ∃ x, l[k] = x := ⟨_, rfl⟩
      rw [hx] at c1
      have HX := Lib.hid hx
      clear hx
      by_cases hxy : x = s
      · have hq : (x.toList == s.toList) = true := by rw [str_beq]; simpa using hxy
        have hin : inL l s = true := inL_iff.2 (by rw [← hxy, ← HX.out]; exact List.getElem_mem hlt)
        have HIN := Lib.hid hin
        clear hxy hin
        go_wp2
        go_ret
        exact ⟨by rw [HIN.out]; rfl, HW.out⟩
      · have hq : (x.toList == s.toList) = false := by rw [str_beq]; simpa using hxy
        have hts : Hid (s ∉ l.take (k + 1)) := by
          show _ ∉ _
          rw [List.take_succ_eq_append_getElem hlt, HX.out, List.mem_append, List.mem_singleton]
          exact fun e => e.elim HE.out (fun e => hxy e.symm)
        clear hxy
        go_wp2
        go_roundw
        case rel => exact ⟨k + 1, by go_num, by omega, HW, hts⟩
        case measure => simp [intOf]; omega
    · obtain rfl : k = l.length := by omega
      have hin : inL l s = false := inL_not.2 (by have := HE.out; rwa [List.take_length] at this)
      have HIN := Lib.hid hin
      clear hin
      go_wp2
      go_ret
      exact ⟨by rw [HIN.out]; rfl, HW.out⟩
/-- a change as it comes in -/
structure Ch where
  do_ : Int
  key : ByteArray
def chCells (o : Ch) : List Value := [.int .i64 o.do_, .string o.key]
def chVal (o : Ch) : Value := .agg #[.int .i64 o.do_, .string o.key]
abbrev ChB := { o : Ch // o.key.size ≤ maxLen }
def chb (o : ChB) : List Value := chCells o.1
theorem chb_len (o : ChB) : (chb o).length = 2 := rfl
theorem ch_read {H : Type} {enc : TypeId × Value → H} {w : World} {base : Nat} {held : Bool} (n : Nat) (l : List Value) (y : DataW H × List MemPlace) (h : DataW.trod enc Try.prog w base (fun _ => true) held n 84 l = some y) : ∃ x : ChB, l = chb x := by
  obtain ⟨hl, hf⟩ := struct_read Try.underlying84 (by kernel_rfl) (by kernel_rfl) h
  match l, hl with
  | [c0, c1], _ =>
    obtain ⟨v0, n0, y0, e0, t0⟩ := hf 0 _ rfl
    obtain ⟨v1, n1, y1, e1, t1⟩ := hf 1 _ rfl
    cases e0; cases e1
    obtain ⟨x0, g0, _, _⟩ := DataW.trod_int Try.underlying3 t0
    obtain ⟨x1, g1, _, hs⟩ := DataW.trod_string Try.underlying9 t1
    cases g0; cases g1
    exact ⟨⟨⟨x0, x1⟩, hs⟩, rfl⟩
theorem ch_at {w : World} {a : Option Addr} {n cap : Nat} {l : List ChB} (h : RdC w 2 (.slice a n cap) n (l.flatMap chb)) (k : Nat) (hk : k < l.length) :
    ∃ g off, a = some ⟨g, off, none⟩ ∧ w.cell? ⟨g, off + k * 2, none⟩ = some (.int .i64 l[k].1.do_) ∧ w.cell? ⟨g, off + k * 2 + 1, none⟩ = some (.string l[k].1.key) := by
  have hf := fun j hj => flat_at chb 2 chb_len l k j hk hj
  have hpos : 0 < (l.flatMap chb).length := by
    have := hf 0 (by decide)
    have h2 : (chb l[k])[0]? = some (.int .i64 l[k].1.do_) := rfl
    rw [h2] at this
    have := (List.getElem?_eq_some_iff.1 this).1
    omega
  obtain ⟨g, off, rfl, hc⟩ := h.at hpos
  refine ⟨g, off, rfl, ?_, ?_⟩
  · exact hc (k * 2 + 0) _ (by rw [hf 0 (by decide)]; rfl)
  · rw [Nat.add_assoc]; exact hc (k * 2 + 1) _ (by rw [hf 1 (by decide)]; rfl)
/-- the first 2^20 changes -/
theorem few_len (l : List ChB) : (l.flatMap chb).length = l.length * 2 := by
  induction l with
  | nil => rfl
  | cons x l ih => rw [List.flatMap_cons, List.length_append, ih, chb_len, List.length_cons]; omega
theorem flat_take (l : List ChB) (k : Nat) (hk : k ≤ l.length) : (l.take k).flatMap chb = (l.flatMap chb).take (k * 2) := by
  induction l generalizing k with
  | nil => simp at hk; subst hk; rfl
  | cons x l ih =>
    cases k with
    | zero => simp
    | succ k =>
      rw [List.take_succ_cons, List.flatMap_cons, List.flatMap_cons, ih k (by simpa using hk), show (k + 1) * 2 = (chb x).length + k * 2 by rw [chb_len]; omega, List.take_length_add_append]
theorem rd_take {w : World} {sz : Nat} {a : Option Addr} {n c : Nat} {xs : List Value} (h : RdC w sz (.slice a n c) n xs) (k : Nat) (hk : k ≤ n) : RdC w sz (.slice a k c) k (xs.take (k * sz)) := by
  obtain ⟨h1, a', c', e, h2, h3, h4, h5⟩ := h
  cases e
  refine ⟨?_, a, c, rfl, Nat.le_trans hk h2, h3, fun ha => ⟨?_, (h4 ha).2⟩, fun ad ha j u hu => h5 ad ha j u ?_⟩
  · rw [List.length_take, h1]; exact Nat.min_eq_left (Nat.mul_le_mul_right _ hk)
  · have := (h4 ha).1; omega
  · rw [List.getElem?_take] at hu
    split at hu
    · exact hu
    · cases hu
theorem few_any (w : World) (v : Value) (l : List ChB) (h : RdC w 2 v l.length (l.flatMap chb)) :
    Calls Try.prog 49 #[v] w fun e w' => (∃ v', e = .returned v' ∧ ∀ W, RdC W 2 v l.length (l.flatMap chb) → RdC W 2 v' (l.take 1048576).length ((l.take 1048576).flatMap chb)) ∧ w = w' := by
  have hm := h.len
  have hcap : ∀ a c, v = .slice a l.length c → l.length ≤ c ∧ c ≤ maxLen := fun a c e => by
    obtain ⟨_, a', c', e', h1, h2, _⟩ := h
    rw [e] at e'
    cases e'
    exact ⟨h1, h2⟩
  obtain ⟨-, a1, c1, rfl, -⟩ := h
  obtain ⟨hc1, hc2⟩ := hcap _ _ rfl
  clear hcap
  unfold maxLen at hm hc2
  go_enter Try.func49, Try.ntmps49
  by_cases hl : 1048576 < l.length
  · go_wp2
    go_ret
    have hlen : (l.take 1048576).length = 1048576 := by rw [List.length_take]; omega
    refine ⟨⟨_, rfl, fun W hW => ?_⟩, rfl⟩
    rw [hlen, flat_take l 1048576 (by omega)]
    exact rd_take hW 1048576 (by omega)
  · have ht : l.take 1048576 = l := List.take_of_length_le (by omega)
    have HT := Lib.hid ht
    clear ht
    go_wp2
    go_ret
    exact ⟨⟨_, rfl, fun W hW => by rw [HT.out]; exact hW⟩, rfl⟩
def changeL (o : Ch) (L : Pl) : Pl := if o.do_ = 1 then setL L o.key 1 else if o.do_ = 2 then delL L o.key else if o.do_ = 4 then [] else L
/-- what a change leaves -/
def ChPost (w : World) (d : Nat) (M : DM) (L : Pl) (o : Ch) (e : Ending) (w' : World) : Prop :=
  e = .returned (.tuple #[]) ∧ ∃ M', Turn w d M w' M' ∧ Like M' (changeL o L) ∧ SL M M'
theorem turn_pre {a b c : World} {d : Nat} {M N : DM} (hf : Fr (fun _ => False) a b) (t : Turn b d M c N) : Turn a d M c N :=
  ⟨t.at_, (hf.mono (fun _ h _ => h.elim)).trans t.fr (fun _ h _ => h), fun k hk => (t.bs k hk).elim .inl (fun h => .inr (Nat.le_trans hf.size h))⟩
set_option maxRecDepth 100000 in
theorem change_any (w : World) (d : Nat) (M : DM) (L : Pl) (o : Ch) (hl : Like M L) (hn : L.length < 4398046511104) (hk : o.key.size ≤ maxLen) (h : DAt w d M) :
    Calls Try.prog 50 #[.pointer (some ⟨d, 0, none⟩), chVal o] w (ChPost w d M L o) := by
  unfold chVal
  have H := Lib.hid h
  have HL := Lib.hid hl
  have hf := Fr.alloc (fun _ => False) w (.cells #[.int .i64 o.do_, .string o.key] 84)
  have hd := h.fr hf (fun _ _ h => h)
  have HF := Lib.hid hf
  have HD := Lib.hid hd
  clear hf hd h hl
  go_enter Try.func50, Try.ntmps50
  obtain ⟨k0, hk0⟩ : ∃ k, o.do_ = k := ⟨_, rfl⟩
  have HC : Hid (changeL o L = if k0 = 1 then setL L o.key 1 else if k0 = 2 then delL L o.key else if k0 = 4 then [] else L) := by show _ = _; rw [← hk0]; rfl
  rw [hk0] at HF HD ⊢
  clear hk0
  by_cases h1 : k0 = 1
  · subst h1
    have HS := Lib.hid (set_like _ d M L o.key 1 hk HD.out HL.out (by omega))
    rw [if_pos rfl] at HC
    go_wp2_with fail
    refine HS.out.mono ?_
    rintro e w1 ⟨rfl, M', T, hl', _, hsl⟩
    have HT := Lib.hid (turn_pre HF.out T)
    have HLL := Lib.hid hl'
    have HSL := Lib.hid hsl
    clear T hl' hsl
    go_wp2
    refine bodyPost_end (results_none rfl _ _ _) rfl ?_
    exact ⟨rfl, M', HT.out, by rw [HC.out]; exact HLL.out, HSL.out⟩
  by_cases h2 : k0 = 2
  · subst h2
    have HS := Lib.hid (del_like _ d M L o.key hk HD.out HL.out (by omega))
    rw [if_neg (by decide), if_pos rfl] at HC
    go_wp2_with fail
    refine HS.out.mono ?_
    rintro e w1 ⟨rfl, M', T, hl', _, hsl⟩
    have HT := Lib.hid (turn_pre HF.out T)
    have HLL := Lib.hid hl'
    have HSL := Lib.hid hsl
    clear T hl' hsl
    go_wp2
    refine bodyPost_end (results_none rfl _ _ _) rfl ?_
    exact ⟨rfl, M', HT.out, by rw [HC.out]; exact HLL.out, HSL.out⟩
  by_cases h3 : k0 = 3
  · subst h3
    have HS := Lib.hid (get_like _ d M L o.key hk HD.out HL.out)
    rw [if_neg (by decide), if_neg (by decide), if_neg (by decide)] at HC
    go_wp2_with fail
    refine HS.out.mono ?_
    rintro e w1 ⟨rfl, M', T, hl', _, hsl⟩
    have HT := Lib.hid (turn_pre HF.out T)
    have HLL := Lib.hid hl'
    have HSL := Lib.hid hsl
    clear T hl' hsl
    go_wp2
    refine bodyPost_end (results_none rfl _ _ _) rfl ?_
    exact ⟨rfl, M', HT.out, by rw [HC.out]; exact HLL.out, HSL.out⟩
  have g1 : (k0 == 1) = false := beq_eq_false_iff_ne.2 h1
  have g2 : (k0 == 2) = false := beq_eq_false_iff_ne.2 h2
  have g3 : (k0 == 3) = false := beq_eq_false_iff_ne.2 h3
  by_cases h4 : k0 = 4
  · subst h4
    have HS := Lib.hid (clear_like _ d M HD.out)
    rw [if_neg (by decide), if_neg (by decide), if_pos rfl] at HC
    go_wp2_with fail
    refine HS.out.mono ?_
    rintro e w1 ⟨rfl, M', T, hl', hsl, _⟩
    have HT := Lib.hid (turn_pre HF.out T)
    have HLL := Lib.hid hl'
    have HSL := Lib.hid hsl
    clear T hl' hsl
    go_wp2
    refine bodyPost_end (results_none rfl _ _ _) rfl ?_
    exact ⟨rfl, M', HT.out, by rw [HC.out]; exact HLL.out, HSL.out⟩
  · have g4 : (k0 == 4) = false := beq_eq_false_iff_ne.2 h4
    rw [if_neg h1, if_neg h2, if_neg h4] at HC
    have HT : Hid (Turn w d M (w.alloc (.cells #[.int .i64 k0, .string o.key] 84)) M) := turn_pre HF.out (Turn.refl HD.out)
    go_wp2
    refine bodyPost_end (results_none rfl _ _ _) rfl ?_
    exact ⟨rfl, M, HT.out, by rw [HC.out]; exact HL.out, rfl, fun _ h _ => h⟩
end Go.Proofs.Ytkecipdonamjaaa
