/- The walk of glob.Plain. No condition. -/
import Derived.Test.YthiamkfghnopgaaGlobS
import Derived.Test.YthiamkfghnopgaaHeap
import Derived.Laws.MakeOwn
import Derived.Laws.NewBlocks
import Derived.Deep.DeepAppendRoom
namespace Go.Proofs.Ythiamkfghnopgaa
open Go.RowKit

theorem madeCells_one (v : Value) (n : Nat) : madeCells #[v] n = (List.replicate n v).toArray := by
  unfold madeCells
  apply Array.ext
  · simp
  · intro i h1 h2
    simp [Nat.mod_one]
/-- 'append' within the row's own capacity: no bound on bytes. -/
theorem wpl_append_spare {P : Program} {w : World} {ops : Array Oper} {rest : List Oper} {o : Oper} {a : Act} {Q : Exit → Act → World → Prop} (hgd : o.guard = none) (s x : Operand) (t : TypeId) (ho : o.op = .call { callee := .builtin .append, args := #[s, x], argTypes := #[t, t] })
    (base : Nat) (e : TypeId) (i : TypeInfo) (size : Nat) (ht : P.underlying t = some (.slice e)) (hi : P.info? e = some i) (hsize : i.size = size) (hsz : 0 < size)
    (g n cap : Nat) (xs : List Value) (hs : a.eval s = .slice (some ⟨g, 0, none⟩) n cap) (hown : w.ownsRow base e size (.slice (some ⟨g, 0, none⟩) n cap) n xs)
    (xv : Value) (m : Nat) (news : List Value) (hx : a.eval x = xv) (hrd : RdC w size xv m news) (hm : 0 < m) (h1 : ∀ u ∈ news, u.oneCell' = true)
    (hroom : n + m ≤ cap)
    (h : ∀ w', w'.ownsRow base e size (.slice (some ⟨g, 0, none⟩) (n + m) cap) (n + m) (xs ++ news) → w.grownBy w' (some g) → wpList P ops Q rest (a.put o.dst (.slice (some ⟨g, 0, none⟩) (n + m) cap)) w') : wpList P ops Q (o :: rest) a w := by
  obtain ⟨hl, ad, c, hxv, hmc, hcm, hnil, hcells⟩ := hrd
  cases ad with
  | some ad => exact wpList_append_own_spare _ hgd s x t ho base e i size ht hi hsize g n cap xs hs hown ad m c news (hx.trans hxv) hl (hcells ad rfl) h1 hroom h
  | none =>
    obtain ⟨rfl, rfl⟩ := hnil rfl
    exact absurd hm (Nat.lt_irrefl 0)
theorem infoByte : (Try.prog.info? 5).map (fun i => (i.zero, i.size, i.bytes)) = some (some (.int .u8 0), 1, 1) := by kernel_rfl
theorem mk_bytes (n : Nat) (hn : n ≤ 281474976710000) (w : World) :
    (Instr.makeSlice 42 (.int .i64 0) (.int .i64 n)).run Try.prog w = .ok (.slice (some ⟨w.heap.size, 0, none⟩) 0 n) (w.alloc (.cells (List.replicate n (.int .u8 0)).toArray 5)) := by
  obtain ⟨i0, hi, hz0, hz1, hz2⟩ := info_parts infoByte
  have h := run_make (P := Try.prog) (w := w) 42 5 i0 (.int .u8 0) Try.underlying42 hi hz0 .i64 .i64 0 n (by omega) (by omega) (by rw [hz2]; omega) (by omega)
  rw [h, hz1, Nat.mul_one, Int.toNat_natCast, show (Value.int IntKind.u8 0).cells = #[.int .u8 0] from rfl, madeCells_one]
  rfl
theorem bl_take_snoc (s : ByteArray) (k : Nat) (h : k < s.size) : (bl s).take (k + 1) = (bl s).take k ++ [s[k]] := by
  rw [List.take_succ_eq_append_getElem (by rw [bl_len]; exact h)]; rfl
theorem one_u8 (l : List UInt8) : ∀ u ∈ l.map u8, u.oneCell' = true := by
  intro u hu; obtain ⟨x, _, rfl⟩ := List.mem_map.1 hu; rfl
def plainR : Option Bytes → Value
  | some l => .tuple #[.string (mkS l), .bool true]
  | none => .tuple #[.string ⟨#[]⟩, .bool false]
def plainV (s : ByteArray) : Value := plainR (plainO (bl s))
set_option maxRecDepth 100000 in
set_option maxHeartbeats 2000000 in
theorem plain_any (s : ByteArray) (w : World) (hs : s.size ≤ 281474976710000) :
    Calls Try.prog 11 #[.string s] w fun e w' => e = .returned (plainV s) ∧ Below w.heap.size w w' := by
  obtain ⟨i0, hi, hz0, hz1, hz2⟩ := info_parts infoByte
  have hmk := mk_bytes s.size (by omega)
  obtain ⟨R, hR⟩ : ∃ R, plainO (bl s) = R := ⟨_, rfl⟩
  have hpv : plainV s = plainR R := by unfold plainV; rw [hR]
  have HPV := Lib.hid hpv
  have HRR := Lib.hid hR
  clear hpv hR
  go_enter Try.func11, Try.ntmps11
  go_wp2
  go_loopg [4, 5] s.size (fun gh v i wr => ∃ (k : Nat) (l : Bytes), Hid (k + gh = s.size) ∧ i = .int .i64 k ∧ l.length ≤ k ∧ v = .slice (some ⟨w.heap.size, 0, none⟩) l.length s.size ∧ Hid (wr.ownsRow w.heap.size 5 1 (.slice (some ⟨w.heap.size, 0, none⟩) l.length s.size) l.length (l.map u8)) ∧ Hid (Below w.heap.size w wr) ∧ Hid ((plainO ((bl s).drop k)).map (l ++ ·) = R))
  case atStart =>
    refine ⟨0, [], Nat.zero_add _, rfl, by simp, rfl, ?_, (Below.refl _ _).alloc (Nat.le_refl _) _, ?_⟩
    · exact World.ownsRow_made w _ s.size (Nat.le_refl _) (by unfold maxLen; omega) (by simp)
    · show _ = _
      rw [← HRR.out, List.drop_zero]
      cases plainO (bl s) <;> rfl
  case round =>
    obtain ⟨k, l, HG, rfl, hlk, rfl, HO, HB, HR⟩ := hrel
    have hk : k ≤ s.size := by have := HG.out; omega
    clear hmk
    by_cases hlt : k < s.size
    · have hd := bl_drop s k hlt
      by_cases hsp : s[k] = 42 ∨ s[k] = 63 ∨ s[k] = 91
      · have hn : R = none := by
          have := HR.out
          rw [hd, plainO_none _ _ hsp] at this
          exact this.symm
        have HN := Lib.hid hn
        rcases hsp with h | h | h
        · have g1 : (((s[k].toNat : Nat) : Int) == 42) = true := by rw [h]; rfl
          clear hd hn h
          go_wp2
          go_ret2
          exact ⟨by rw [HPV.out, HN.out]; rfl, HB.out⟩
        · have g1 : (((s[k].toNat : Nat) : Int) == 42) = false := by rw [h]; rfl
          have g2 : (((s[k].toNat : Nat) : Int) == 63) = true := by rw [h]; rfl
          clear hd hn h
          go_wp2
          go_ret2
          exact ⟨by rw [HPV.out, HN.out]; rfl, HB.out⟩
        · have g1 : (((s[k].toNat : Nat) : Int) == 42) = false := by rw [h]; rfl
          have g2 : (((s[k].toNat : Nat) : Int) == 63) = false := by rw [h]; rfl
          have g3 : (((s[k].toNat : Nat) : Int) == 91) = true := by rw [h]; rfl
          clear hd hn h
          go_wp2
          go_ret2
          exact ⟨by rw [HPV.out, HN.out]; rfl, HB.out⟩
      · have g1 : (((s[k].toNat : Nat) : Int) == 42) = false := byte_ne _ 42 (by decide) (fun e => hsp (.inl e))
        have g2 : (((s[k].toNat : Nat) : Int) == 63) = false := byte_ne _ 63 (by decide) (fun e => hsp (.inr (.inl e)))
        have g3 : (((s[k].toNat : Nat) : Int) == 91) = false := byte_ne _ 91 (by decide) (fun e => hsp (.inr (.inr e)))
        have hc := plainO_cons s[k] ((bl s).drop (k + 1)) hsp
        rw [← hd, List.drop_drop] at hc
        have HC := Lib.hid (literal_any s k wr (by omega) hlt)
        unfold litV b8 at HC
        have hnp := lit_pos ((bl s).drop k)
        have hnl := lit_le ((bl s).drop k) (by rw [hd]; simp)
        rw [List.length_drop, bl_len] at hnl
        obtain ⟨n, hn⟩ : ∃ n, (lit ((bl s).drop k)).2 = n := ⟨_, rfl⟩
        obtain ⟨b, hb⟩ : ∃ b, (lit ((bl s).drop k)).1 = b := ⟨_, rfl⟩
        rw [hn, hb] at HC hc
        rw [hn] at hnp hnl
        have hrn : (plainO ((bl s).drop (k + n))).map ((l ++ [b]) ++ ·) = R := by
          rw [← HR.out, hc]
          cases plainO ((bl s).drop (k + n)) <;> simp
        have HRN := Lib.hid hrn
        clear hd hsp hc hn hb hrn
        go_wp2_with fail
        refine HC.out.mono ?_
        rintro e w' ⟨rfl, rfl⟩
        go_wp2_with (at_builtin; refine wpl_append_spare rfl (.tmp 27) (.tmp 29) 42 rfl w.heap.size 5 i0 1 Try.underlying42 hi hz1 (by decide) w.heap.size l.length s.size _ rfl (HO.out.alloc _) _ 1 ([b].map u8) rfl (RdC.of_owns (World.ownsRow_lit (e := 5) wr #[.int .u8 b.toNat] 1 (Nat.le_refl _) (by decide) rfl)) (by decide) (one_u8 _) (by omega) ?_; intro w1 hown hgrow; have hbel1 : Below w.heap.size w w1 := (HB.out.alloc HB.out.size _).grown hgrow (by have := HB.out.size; simp; omega) (fun k e => by cases e; exact Nat.le_refl _); have HO1 := Lib.hid hown; have HB1 := Lib.hid hbel1; clear hown hgrow hbel1)
        go_wp2
        go_roundg (s.size - (k + n))
        case measure => have := HG.out; omega
        case rel =>
          refine ⟨k + n, l ++ [b], by show _ = _; omega, by first | rfl | go_num, by simp; omega, by rw [List.length_append]; rfl, ?_, HB1, HRN⟩
          show World.ownsRow _ _ _ _ _ _ _
          rw [List.map_append, List.length_append]
          exact HO1.out
    · have hr := HR.out
      rw [bl_end s k (by omega), plainO_nil] at hr
      have hr2 : R = some l := by rw [← hr]; simp
      have HN := Lib.hid hr2
      have g1 : decide (k < s.size) = false := by simpa using hlt
      clear hr hr2
      go_wp2_with (refine wpl_toString rfl (.tmp 31) 42 9 5 rfl _ l rfl Try.underlying42 Try.underlying9 Try.underlying5 (RdC.of_owns HO.out) ?_)
      go_ret2
      exact ⟨by rw [HPV.out, HN.out]; rfl, HB.out⟩
end Go.Proofs.Ythiamkfghnopgaa
