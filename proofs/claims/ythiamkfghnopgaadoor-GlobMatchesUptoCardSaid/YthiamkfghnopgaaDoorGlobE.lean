/- The walks of pantrylaw03's escaped and wakes, and of glob.Plain. No condition. -/
import Derived.Test.YthiamkfghnopgaaDoorGlobN
import Derived.Test.YthiamkfghnopgaaDoorHeap
import Derived.Laws.MakeOwn
import Derived.Laws.NewBlocks
import Derived.Deep.DeepAppendRoom
namespace Go.Proofs.YthiamkfghnopgaaDoor
open Go.RowKit

theorem madeCells_one (v : Value) (n : Nat) : madeCells #[v] n = (List.replicate n v).toArray := by
  unfold madeCells
  apply Array.ext
  · simp
  · intro i h1 h2
    simp [Nat.mod_one]
/-- 'append' within the row's own capacity: no bound on bytes. -/
theorem wpl_append_spare {P : Program} {w : World} {ops : Array Oper} {rest : List Oper} {o : Oper} {a : Act} {Q : Exit → Act → World → Prop} (hgd : o.guard = none) (s x : Operand) (t : TypeId) (ho : o.op = .call { callee := .builtin .append, args := #[s, x], argTypes := #[t, t] })
    (base : Nat) (e : TypeId) (i : TypeInfo) (size : Nat) (ht : P.underlying t = some (.slice e)) (hi : P.info? e = some i) (hsize : i.size = size) (hsz : 0 < size)
    (g n cap : Nat) (xs : List Value) (hs : a.eval s = .slice (some ⟨g, 0, none⟩) n cap) (hown : w.ownsRow base e size (.slice (some ⟨g, 0, none⟩) n cap) n xs)
    (xv : Value) (m : Nat) (news : List Value) (hx : a.eval x = xv) (hrd : RdC w size xv m news) (hm : 0 < m) (h1 : ∀ u ∈ news, u.oneCell' = true)
    (hroom : n + m ≤ cap)
    (h : ∀ w', w'.ownsRow base e size (.slice (some ⟨g, 0, none⟩) (n + m) cap) (n + m) (xs ++ news) → w.grownBy w' (some g) → wpList P ops Q rest (a.put o.dst (.slice (some ⟨g, 0, none⟩) (n + m) cap)) w') : wpList P ops Q (o :: rest) a w := by
  obtain ⟨hl, ad, c, hxv, hmc, hcm, hnil, hcells⟩ := hrd
  cases ad with
  | some ad => exact wpList_append_own_spare _ hgd s x t ho base e i size ht hi hsize g n cap xs hs hown ad m c news (hx.trans hxv) hl (hcells ad rfl) h1 hroom h
  | none =>
    obtain ⟨rfl, rfl⟩ := hnil rfl
    exact absurd hm (Nat.lt_irrefl 0)
theorem infoByte : (Tryd.prog.info? 5).map (fun i => (i.zero, i.size, i.bytes)) = some (some (.int .u8 0), 1, 1) := by kernel_rfl
theorem mk_bytes (n : Nat) (hn : n ≤ 281474976710000) (w : World) :
    (Instr.makeSlice 28 (.int .i64 0) (.int .i64 n)).run Tryd.prog w = .ok (.slice (some ⟨w.heap.size, 0, none⟩) 0 n) (w.alloc (.cells (List.replicate n (.int .u8 0)).toArray 5)) := by
  obtain ⟨i0, hi, hz0, hz1, hz2⟩ := info_parts infoByte
  have h := run_make (P := Tryd.prog) (w := w) 28 5 i0 (.int .u8 0) Tryd.underlying28 hi hz0 .i64 .i64 0 n (by omega) (by omega) (by rw [hz2]; omega) (by omega)
  rw [h, hz1, Nat.mul_one, Int.toNat_natCast, show (Value.int IntKind.u8 0).cells = #[.int .u8 0] from rfl, madeCells_one]
  rfl
theorem bl_take_snoc (s : ByteArray) (k : Nat) (h : k < s.size) : (bl s).take (k + 1) = (bl s).take k ++ [s[k]] := by
  rw [List.take_succ_eq_append_getElem (by rw [bl_len]; exact h)]; rfl
theorem one_u8 (l : List UInt8) : ∀ u ∈ l.map u8, u.oneCell' = true := by
  intro u hu; obtain ⟨x, _, rfl⟩ := List.mem_map.1 hu; rfl
set_option maxRecDepth 100000 in
set_option maxHeartbeats 1000000 in
theorem escaped_any (s : ByteArray) (w : World) (hs : s.size ≤ 140737488355000) :
    Calls Tryd.prog 15 #[.string s] w fun e w' => e = .returned (.string (mkS (esc (bl s)))) ∧ Below w.heap.size w w' := by
  obtain ⟨i0, hi, hz0, hz1, hz2⟩ := info_parts infoByte
  have hmk : ∀ w : World, (Instr.makeSlice 28 (.int .i64 0) (.int .i64 (2 * (s.size : Int)))).run Tryd.prog w = .ok (.slice (some ⟨w.heap.size, 0, none⟩) 0 (2 * s.size)) (w.alloc (.cells (List.replicate (2 * s.size) (.int .u8 0)).toArray 5)) := fun w => by
    have := mk_bytes (2 * s.size) (by omega) w
    rw [Int.natCast_mul] at this
    exact this
  go_enter Tryd.func15, Tryd.ntmps15
  go_wp2
  go_loopg [3, 4] s.size (fun gh v i wr => ∃ k : Nat, Hid (k + gh = s.size) ∧ i = .int .i64 k ∧ v = .slice (some ⟨w.heap.size, 0, none⟩) (2 * k) (2 * s.size) ∧ Hid (wr.ownsRow w.heap.size 5 1 (.slice (some ⟨w.heap.size, 0, none⟩) (2 * k) (2 * s.size)) (2 * k) ((esc ((bl s).take k)).map u8)) ∧ Hid (Below w.heap.size w wr))
  case atStart =>
    refine ⟨0, Nat.zero_add _, rfl, rfl, ?_, (Below.refl _ _).alloc (Nat.le_refl _) _⟩
    exact World.ownsRow_made w _ (2 * s.size) (Nat.le_refl _) (by unfold maxLen; omega) (by simp)
  case round =>
    obtain ⟨k, HG, rfl, rfl, HO, HB⟩ := hrel
    have hk : k ≤ s.size := by have := HG.out; omega
    clear hmk
    by_cases hlt : k < s.size
    · obtain ⟨b, hb⟩ : ∃ b, s[k] = b := ⟨_, rfl⟩
      have hts := bl_take_snoc s k hlt
      rw [hb] at hts
      have HTS := Lib.hid hts; clear hts
      go_wp2_with (at_builtin; refine wpl_append_spare rfl (.tmp 15) (.tmp 19) 28 rfl w.heap.size 5 i0 1 Tryd.underlying28 hi hz1 (by decide) w.heap.size (2 * k) (2 * s.size) _ rfl (HO.out.alloc _) _ 2 ([92, b].map u8) rfl (RdC.of_owns (World.ownsRow_lit (e := 5) wr #[.int .u8 92, .int .u8 b.toNat] 2 (Nat.le_refl _) (by decide) rfl)) (by decide) (one_u8 _) (by omega) ?_; intro w1 hown hgrow; have hbel1 : Below w.heap.size w w1 := (HB.out.alloc HB.out.size _).grown hgrow (by have := HB.out.size; simp; omega) (fun k e => by cases e; exact Nat.le_refl _); have HO1 := Lib.hid hown; have HB1 := Lib.hid hbel1; clear hown hgrow hbel1)
      go_wp2
      go_roundg (s.size - (k + 1))
      case measure => have := HG.out; omega
      case rel =>
        refine ⟨k + 1, by show _ = _; omega, by go_num, rfl, ?_, HB1⟩
        show World.ownsRow _ _ _ _ _ _ _
        rw [HTS.out, esc_snoc, List.map_append]
        exact HO1.out
    · have hke : k = s.size := by omega
      have hown := HO.out
      have htk : (bl s).take k = bl s := by rw [hke]; exact List.take_of_length_le (by rw [bl_len]; exact Nat.le_refl _)
      rw [htk] at hown
      have HOO := Lib.hid hown
      have hel := esc_len (bl s)
      rw [bl_len, ← hke] at hel
      have HEL := Lib.hid hel
      have g1 : decide (k < s.size) = false := by simpa using hlt
      clear hown hke hel htk
      go_wp2_with (refine wpl_toString rfl (.tmp 21) 28 9 5 rfl _ (esc (bl s)) rfl Tryd.underlying28 Tryd.underlying9 Tryd.underlying5 (by rw [HEL.out]; exact RdC.of_owns HOO.out) ?_)
      go_ret
      exact ⟨rfl, HB.out⟩
def plainR : Option Bytes → Value
  | some l => .tuple #[.string (mkS l), .bool true]
  | none => .tuple #[.string ⟨#[]⟩, .bool false]
def plainV (s : ByteArray) : Value := plainR (plainO (bl s))
set_option maxRecDepth 100000 in
set_option maxHeartbeats 2000000 in
theorem plain_any (s : ByteArray) (w : World) (hs : s.size ≤ 281474976710000) :
    Calls Tryd.prog 16 #[.string s] w fun e w' => e = .returned (plainV s) ∧ Below w.heap.size w w' := by
  obtain ⟨i0, hi, hz0, hz1, hz2⟩ := info_parts infoByte
  have hmk := mk_bytes s.size (by omega)
  obtain ⟨R, hR⟩ : ∃ R, plainO (bl s) = R := ⟨_, rfl⟩
  have hpv : plainV s = plainR R := by unfold plainV; rw [hR]
  have HPV := Lib.hid hpv
  have HRR := Lib.hid hR
  clear hpv hR
  go_enter Tryd.func16, Tryd.ntmps16
  go_wp2
  go_loopg [4, 5] s.size (fun gh v i wr => ∃ (k : Nat) (l : Bytes), Hid (k + gh = s.size) ∧ i = .int .i64 k ∧ l.length ≤ k ∧ v = .slice (some ⟨w.heap.size, 0, none⟩) l.length s.size ∧ Hid (wr.ownsRow w.heap.size 5 1 (.slice (some ⟨w.heap.size, 0, none⟩) l.length s.size) l.length (l.map u8)) ∧ Hid (Below w.heap.size w wr) ∧ Hid ((plainO ((bl s).drop k)).map (l ++ ·) = R))
  case atStart =>
    refine ⟨0, [], Nat.zero_add _, rfl, by simp, rfl, ?_, (Below.refl _ _).alloc (Nat.le_refl _) _, ?_⟩
    · exact World.ownsRow_made w _ s.size (Nat.le_refl _) (by unfold maxLen; omega) (by simp)
    · show _ = _
      rw [← HRR.out, List.drop_zero]
      cases plainO (bl s) <;> rfl
  case round =>
    obtain ⟨k, l, HG, rfl, hlk, rfl, HO, HB, HR⟩ := hrel
    have hk : k ≤ s.size := by have := HG.out; omega
    clear hmk
    by_cases hlt : k < s.size
    · have hd := bl_drop s k hlt
      by_cases hsp : s[k] = 42 ∨ s[k] = 63 ∨ s[k] = 91
      · have hn : R = none := by
          have := HR.out
          rw [hd, plainO_none _ _ hsp] at this
          exact this.symm
        have HN := Lib.hid hn
        rcases hsp with h | h | h
        · have g1 : (((s[k].toNat : Nat) : Int) == 42) = true := by rw [h]; rfl
          clear hd hn h
          go_wp2
          go_ret2
          exact ⟨by rw [HPV.out, HN.out]; rfl, HB.out⟩
        · have g1 : (((s[k].toNat : Nat) : Int) == 42) = false := by rw [h]; rfl
          have g2 : (((s[k].toNat : Nat) : Int) == 63) = true := by rw [h]; rfl
          clear hd hn h
          go_wp2
          go_ret2
          exact ⟨by rw [HPV.out, HN.out]; rfl, HB.out⟩
        · have g1 : (((s[k].toNat : Nat) : Int) == 42) = false := by rw [h]; rfl
          have g2 : (((s[k].toNat : Nat) : Int) == 63) = false := by rw [h]; rfl
          have g3 : (((s[k].toNat : Nat) : Int) == 91) = true := by rw [h]; rfl
          clear hd hn h
          go_wp2
          go_ret2
          exact ⟨by rw [HPV.out, HN.out]; rfl, HB.out⟩
      · have g1 : (((s[k].toNat : Nat) : Int) == 42) = false := byte_ne _ 42 (by decide) (fun e => hsp (.inl e))
        have g2 : (((s[k].toNat : Nat) : Int) == 63) = false := byte_ne _ 63 (by decide) (fun e => hsp (.inr (.inl e)))
        have g3 : (((s[k].toNat : Nat) : Int) == 91) = false := byte_ne _ 91 (by decide) (fun e => hsp (.inr (.inr e)))
        have hc := plainO_cons s[k] ((bl s).drop (k + 1)) hsp
        rw [← hd, List.drop_drop] at hc
        have HC := Lib.hid (literal_any s k wr (by omega) hlt)
        unfold litV b8 at HC
        have hnp := lit_pos ((bl s).drop k)
        have hnl := lit_le ((bl s).drop k) (by rw [hd]; simp)
        rw [List.length_drop, bl_len] at hnl
        obtain ⟨n, hn⟩ : ∃ n, (lit ((bl s).drop k)).2 = n := ⟨_, rfl⟩
        obtain ⟨b, hb⟩ : ∃ b, (lit ((bl s).drop k)).1 = b := ⟨_, rfl⟩
        rw [hn, hb] at HC hc
        rw [hn] at hnp hnl
        have hrn : (plainO ((bl s).drop (k + n))).map ((l ++ [b]) ++ ·) = R := by
          rw [← HR.out, hc]
          cases plainO ((bl s).drop (k + n)) <;> simp
        have HRN := Lib.hid hrn
        clear hd hsp hc hn hb hrn
        go_wp2_with fail
        refine HC.out.mono ?_
        rintro e w' ⟨rfl, rfl⟩
        go_wp2_with (at_builtin; refine wpl_append_spare rfl (.tmp 27) (.tmp 29) 28 rfl w.heap.size 5 i0 1 Tryd.underlying28 hi hz1 (by decide) w.heap.size l.length s.size _ rfl (HO.out.alloc _) _ 1 ([b].map u8) rfl (RdC.of_owns (World.ownsRow_lit (e := 5) wr #[.int .u8 b.toNat] 1 (Nat.le_refl _) (by decide) rfl)) (by decide) (one_u8 _) (by omega) ?_; intro w1 hown hgrow; have hbel1 : Below w.heap.size w w1 := (HB.out.alloc HB.out.size _).grown hgrow (by have := HB.out.size; simp; omega) (fun k e => by cases e; exact Nat.le_refl _); have HO1 := Lib.hid hown; have HB1 := Lib.hid hbel1; clear hown hgrow hbel1)
        go_wp2
        go_roundg (s.size - (k + n))
        case measure => have := HG.out; omega
        case rel =>
          refine ⟨k + n, l ++ [b], by show _ = _; omega, by first | rfl | go_num, by simp; omega, by rw [List.length_append]; rfl, ?_, HB1, HRN⟩
          show World.ownsRow _ _ _ _ _ _ _
          rw [List.map_append, List.length_append]
          exact HO1.out
    · have hr := HR.out
      rw [bl_end s k (by omega), plainO_nil] at hr
      have hr2 : R = some l := by rw [← hr]; simp
      have HN := Lib.hid hr2
      have g1 : decide (k < s.size) = false := by simpa using hlt
      clear hr hr2
      go_wp2_with (refine wpl_toString rfl (.tmp 31) 28 9 5 rfl _ l rfl Tryd.underlying28 Tryd.underlying9 Tryd.underlying5 (RdC.of_owns HO.out) ?_)
      go_ret2
      exact ⟨by rw [HPV.out, HN.out]; rfl, HB.out⟩
theorem match_lit (p s : ByteArray) (b : Bool) (w : World) (hp : p.size < 4611686018427387904) (hs : s.size < 4611686018427387904) (hb : gm p s = b) :
    Calls Tryd.prog 8 #[.string p, .string s] w fun e w' => e = .returned (.bool b) ∧ ∃ m, w' = w.drewN m := by
  subst hb; exact match_any p s w hp hs
theorem wakes_any (w : World) : Calls Tryd.prog 10 #[] w fun e w' => e = .returned (.bool true) ∧ ∃ m, w' = w.drewN m := by
  go_enter Tryd.func10, Tryd.ntmps10
  go_wp2_with fail
  refine (match_lit _ _ true _ (by decide) (by decide) (by decide +kernel)).mono ?_
  rintro e w1 ⟨rfl, m1, rfl⟩
  go_wp2_with fail
  refine (match_lit _ _ false _ (by decide) (by decide) (by decide +kernel)).mono ?_
  rintro e w2 ⟨rfl, m2, rfl⟩
  go_wp2_with fail
  refine (match_lit _ _ true _ (by decide) (by decide) (by decide +kernel)).mono ?_
  rintro e w3 ⟨rfl, m3, rfl⟩
  go_wp2_with fail
  refine (match_lit _ _ false _ (by decide) (by decide) (by decide +kernel)).mono ?_
  rintro e w4 ⟨rfl, m4, rfl⟩
  go_wp2_with fail
  go_ret
  exact ⟨rfl, m1 + m2 + m3 + m4, by simp [World.drewN_drewN]⟩
end Go.Proofs.YthiamkfghnopgaaDoor
