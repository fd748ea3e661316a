/- slices.DeleteFunc of candidates by Drop's closure. No condition. -/
import Derived.Test.YtpcjogmikgfgdaaPoolD
import Derived.Outline
namespace Go.Proofs.Ytpcjogmikgfgdaa
open Go.RowKit Go.Sort
def dropK (k : ByteArray) (l : List Cd) : List Cd := l.filter fun c => decide (c.key ≠ k)
theorem dropK_none {k : ByteArray} {l : List Cd} (h : ∀ c ∈ l, c.key ≠ k) : dropK k l = l := List.filter_eq_self.2 (fun c hc => by simpa using h c hc)
theorem dropK_take (k : ByteArray) (l : List Cd) (j : Nat) (h : j < l.length) : dropK k (l.take (j + 1)) = dropK k (l.take j) ++ (if l[j].key = k then [] else [l[j]]) := by
  unfold dropK
  rw [List.take_succ_eq_append_getElem h, List.filter_append]
  congr 1
  by_cases hk : l[j].key = k
  · rw [if_pos hk]; simp [hk]
  · rw [if_neg hk]; simp [hk]
/-- where the loop stands -/
structure Df (l M : List Cd) (k : ByteArray) (i j : Nat) : Prop where
  len : M.length = l.length
  lt : i < j
  le : j ≤ l.length
  head : M.take i = dropK k (l.take j)
  rest : ∀ t, j ≤ t → M[t]? = l[t]?
theorem Df.skip {l M : List Cd} {k : ByteArray} {i j : Nat} (h : Df l M k i j) (hj : j < l.length) (hk : l[j].key = k) : Df l M k i (j + 1) :=
  ⟨h.len, by have := h.lt; omega, hj, by rw [dropK_take _ _ _ hj, if_pos hk, List.append_nil]; exact h.head, fun t ht => h.rest t (by omega)⟩
theorem Df.keep {l M : List Cd} {k : ByteArray} {i j : Nat} (h : Df l M k i j) (hj : j < l.length) (hk : l[j].key ≠ k) : Df l (M.set i l[j]) k (i + 1) (j + 1) := by
  have hlt := h.lt
  have hln := h.len
  refine ⟨by rw [List.length_set]; exact h.len, by omega, hj, ?_, fun t ht => ?_⟩
  · rw [dropK_take _ _ _ hj, if_neg hk, ← h.head, List.take_succ_eq_append_getElem (by rw [List.length_set]; omega), List.take_set, List.getElem_set_self]
    congr 1
    rw [List.set_eq_of_length_le (by rw [List.length_take]; omega)]
  · rw [List.getElem?_set_ne (by omega)]
    exact h.rest t (by omega)
set_option maxRecDepth 100000 in
set_option maxHeartbeats 4000000 in
theorem delfunc_any (w : World) (B : Nat) (v : Value) (l : List Cd) (kb : Nat) (k : ByteArray) (h : w.ownsRow B 73 2 v l.length (clC l)) (hk : w.cell? ⟨kb, 0, none⟩ = some (.string k)) (hkb : v.ownBlock ≠ some kb) (hl : l.length ≤ 17) :
    Calls Try.prog 81 #[v, .func (.func 82) #[] #[.pointer (some ⟨kb, 0, none⟩)]] w (DelPost w B v (dropK k l)) := by
  have HI := Lib.hid (index_any w v l kb k (RdC.of_owns h) hk hl)
  have H := Lib.hid h
  have HK := Lib.hid hk
  have HKB := Lib.hid hkb
  obtain ⟨-, ⟨rfl, h0⟩ | ⟨g, cap, cur, rfl, hbase, hb, h1, h2, h3, h4⟩⟩ := h
  · have hl0 : l = [] := List.length_eq_zero_iff.1 h0
    subst hl0
    clear hk hkb h0
    go_enter Try.func81, Try.ntmps81
    go_wp2_with fail
    refine HI.out.mono ?_
    rintro e w1 ⟨⟨rfl, hno⟩ | ⟨j, hj, -⟩, hf⟩
    · have HF := Lib.hid hf
      clear hno hf
      go_wp2_with fail
      go_ret
      exact ⟨_, rfl, World.ownsRow_nil _ _ _ _, rfl, HF.out.mono (fun _ h _ => h.elim)⟩
    · simp at hj
  · have hcm : (cap : Int) ≤ 9223372036854775807 := by unfold maxLen at h2; omega
    clear hb h2 h3 h4 hbase hk hkb
    go_enter Try.func81, Try.ntmps81
    go_wp2_with fail
    refine HI.out.mono ?_
    rintro e w1 ⟨⟨rfl, hno⟩ | ⟨j0, hj0, rfl, hkj, hpre⟩, hf⟩
    · have HF := Lib.hid hf
      have HD : Hid (dropK k l = l) := dropK_none hno
      clear hno hf
      go_wp2_with fail
      go_ret
      refine ⟨_, rfl, ?_, rfl, HF.out.mono (fun _ h _ => h.elim)⟩
      rw [HD.out]
      exact owns_fr H.out HF.out (fun _ _ h => h)
    · have HDF : Hid (Df l l k j0 (j0 + 1)) := ⟨rfl, by omega, hj0, by rw [dropK_take _ _ _ hj0, if_pos hkj, List.append_nil, dropK_none hpre], fun t _ => rfl⟩
      have HF1 := Lib.hid hf
      have HR1 : Hid (w1.ownsRow B 73 2 (.slice (some ⟨g, 0, none⟩) l.length cap) l.length (clC l)) := owns_fr H.out hf (fun _ _ h => h)
      have g1 : ((j0 : Int) == -1) = false := beq_eq_false_iff_ne.2 (by omega)
      clear hf hkj hpre
      go_wp2_with fail
      go_loopw [5, 6] (fun i j wr => ∃ (a b : Nat) (M : List Cd), i = .int .i64 a ∧ j = .int .i64 b ∧ Hid (Df l M k a b) ∧ Hid (wr.ownsRow B 73 2 (.slice (some ⟨g, 0, none⟩) l.length cap) l.length (clC M)) ∧ Hid (Fr (fun i => some g = some i) w wr)) (fun _ j _ => l.length - (intOf j).toNat)
      case atStart => exact ⟨j0, j0 + 1, l, rfl, by go_num, HDF.out, HR1.out, HF1.out.mono (fun _ h _ => h.elim)⟩
      case round =>
        obtain ⟨a, b, M, rfl, rfl, HD, HR, HF⟩ := hrel
        obtain ⟨wo, rfl⟩ : ∃ x, x = wr := ⟨_, rfl⟩
        have hab := HD.out.lt
        have hble := HD.out.le
        clear HDF HR1 g1
        by_cases hlt : b < l.length
        · obtain ⟨g', off, he, d0, d1⟩ := cd_at (RdC.of_owns HR.out) b (by rw [HD.out.len]; exact hlt)
          cases he
          have hMb : M[b]'(by rw [HD.out.len]; exact hlt) = l[b] := by
            have h5 := HD.out.rest b (Nat.le_refl _)
            rw [List.getElem?_eq_getElem hlt, List.getElem?_eq_getElem (by rw [HD.out.len]; exact hlt)] at h5
            exact Option.some.inj h5
          rw [hMb, Nat.zero_add] at d0
          rw [hMb, Nat.zero_add] at d1
          have hb0 : (0 : Int) ≤ (b : Int) := by omega
          have hb1 : (b : Int) < (l.length : Int) := by omega
          have ha0 : (0 : Int) ≤ (a : Int) := by omega
          have ha1 : (a : Int) < (l.length : Int) := by omega
          have hkk : wo.cell? ⟨kb, 0, none⟩ = some (.string k) := HF.out.cell HK.out (fun e => HKB.out e)
          obtain ⟨cj, hcj⟩ : ∃ c, l[b] = c := ⟨_, rfl⟩
          rw [hcj] at d0 d1
          have HCJ := Lib.hid hcj
          have hcl := clos_any cj kb k (wo.alloc (.cells (encC cj).toArray 73)) ((Fr.alloc (fun _ => False) wo _).cell hkk (fun h => h))
          clear hcj hMb
          go_wp2_with fail
          refine hcl.mono ?_
          rintro e w' ⟨rfl, hw'⟩
          obtain ⟨W3, hW3⟩ : ∃ W, w' = W := ⟨_, rfl⟩
          rw [hW3] at hw' ⊢
          have HF3 : Hid (Fr (fun _ => False) wo W3) := by rw [hw']; exact (Fr.alloc _ _ _).thenAlloc _
          have hbx : W3.heap[wo.heap.size]? = some (.cells #[.string cj.key, .int .u64 cj.rank] 73 (0, 0)) := by
            rw [hw']
            exact (Below.heap_alloc (wo.alloc (.cells (encC cj).toArray 73)) _ _ (by simp)).trans (alloc_at _ _)
          have x0 : W3.cell? ⟨wo.heap.size, 0, none⟩ = some (.string cj.key) := cell_of_blk hbx 0
          have x1 : W3.cell? ⟨wo.heap.size, 1, none⟩ = some (.int .u64 cj.rank) := cell_of_blk hbx 1
          have HR3 : Hid (W3.ownsRow B 73 2 (.slice (some ⟨g, 0, none⟩) l.length cap) l.length (clC M)) := owns_fr HR.out HF3.out (fun _ _ h => h)
          clear hW3 hw' hcl hbx hkk
          by_cases hq : cj.key = k
          · have hqb : (cj.key.toList == k.toList) = true := by rw [str_beq]; simpa using hq
            have HD2 := Lib.hid (HD.out.skip hlt (by rw [HCJ.out]; exact hq))
            rw [hqb]
            clear hqb hq
            go_wp2_with fail
            go_roundw
            case rel => exact ⟨a, b + 1, M, by go_num, by go_num, HD2.out, HR3.out, HF.out.wide HF3.out (fun _ h => h.elim)⟩
            case measure => simp [intOf]; omega
          · have hqb : (cj.key.toList == k.toList) = false := by rw [str_beq]; simpa using hq
            have HD2 := Lib.hid (HD.out.keep hlt (by rw [HCJ.out]; exact hq))
            rw [hqb]
            have HS1 := Lib.hid (own_putK HR3.out (show a * 2 < l.length * 2 by omega) (.string cj.key))
            have HS2 := Lib.hid (own_putK HS1.out (show a * 2 + 1 < l.length * 2 by omega) (.int .u64 cj.rank))
            obtain ⟨-, ⟨h9, _⟩ | ⟨g9, cap9, cur9, he9, _, hb9, k91, _, k93, _⟩⟩ := HR3.out
            · cases h9
            cases he9
            obtain ⟨q0, y0⟩ : ∃ q, W3.cell? ⟨g, a * 2, none⟩ = some q := ⟨cur9[a * 2]'(by omega), by rw [cell_of_blk hb9]; exact Array.getElem?_eq_getElem _⟩
            obtain ⟨q1, y1⟩ : ∃ q, W3.cell? ⟨g, a * 2 + 1, none⟩ = some q := ⟨cur9[a * 2 + 1]'(by omega), by rw [cell_of_blk hb9]; exact Array.getElem?_eq_getElem _⟩
            have yf0 : W3.frozen? ⟨g, a * 2, none⟩ = false := free_of_blk hb9 _
            have yf1 : W3.frozen? ⟨g, a * 2 + 1, none⟩ = false := free_of_blk hb9 _
            clear hqb hq hb9 k93
            go_wp2_with fail
            go_roundw
            case rel => exact ⟨a + 1, b + 1, M.set a l[b], by go_num, by go_num, HD2.out, by rw [HCJ.out, ← clC_set]; exact HS2.out, ((HF.out.wide HF3.out (fun _ h => h.elim)).wide (Fr.setCell W3 ⟨g, a * 2, none⟩ _) (fun i hi => .inl (by rw [hi]))).wide (Fr.setCell _ ⟨g, a * 2 + 1, none⟩ _) (fun i hi => .inl (by rw [hi]))⟩
            case measure => simp [intOf]; omega
        · obtain rfl : b = l.length := by omega
          obtain ⟨-, ⟨h9, _⟩ | ⟨g9, cap9, cur9, he9, hbase9, hb9, k91, k92, k93, k94⟩⟩ := HR.out
          · cases h9
          cases he9
          obtain ⟨w2, cs, hcl, hb2, k5, k6, hf2⟩ := run_clearC wo g (a * 2) (l.length - a) (cap - a) cur9 hb9 (by rw [k93]; omega)
          have hlen : (dropK k l).length = a := by
            have h5 := congrArg List.length HD.out.head
            rw [List.take_length, List.length_take, HD.out.len] at h5
            omega
          have HOUT : Hid (w2.ownsRow B 73 2 (.slice (some ⟨g, 0, none⟩) a cap) (dropK k l).length (clC (dropK k l))) := by
            refine ⟨clC_len _, .inr ⟨g, cap, cs, by rw [hlen], hbase9, hb2, by omega, k92, by rw [k5, k93], ?_⟩⟩
            rw [hlen, k6]
            have h6 := congrArg (List.take (a * 2)) k94
            rw [List.take_take, Nat.min_eq_left (by omega)] at h6
            rw [h6]
            have h7 := HD.out.head
            rw [List.take_length] at h7
            rw [← h7]
            unfold clC
            have h8 := List.take_append_drop a M
            rw [← h8, List.flatMap_append, List.take_append_of_le_length (by show _ ≤ (clC (M.take a)).length; rw [clC_len, List.length_take, HD.out.len]; omega)]
            rw [List.take_of_length_le (by show (clC (M.take a)).length ≤ _; rw [clC_len, List.length_take]; omega)]
            rw [h8]
          have HF2 : Hid (Fr (fun i => some g = some i) w w2) := HF.out.wide hf2 (fun i hi => .inl (by rw [hi]))
          have hle1 : (a : Int) ≤ (l.length : Int) := by omega
          have hne : cap ≠ a := by omega
          clear hb9 k93 k94 hb2 k5 k6 hf2 hlen hbase9
          go_wp2_with fail
          go_ret
          exact ⟨_, rfl, HOUT.out, rfl, HF2.out⟩
end Go.Proofs.Ytpcjogmikgfgdaa
