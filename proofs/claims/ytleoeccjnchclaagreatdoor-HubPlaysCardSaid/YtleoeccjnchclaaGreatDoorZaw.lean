/- The walk of pantryref03's Signs. No condition but sizes. -/
import Derived.Test.YtleoeccjnchclaaGreatDoorZav
namespace Go.Proofs.YtleoeccjnchclaaGreatDoor
open Go.RowKit
theorem infoSign : (Tryz.prog.info? 83).map (fun i => (i.zero, i.size, i.bytes)) = some (some (.agg (signC false (fun _ => false) 0 false).toArray), 259, 259) := by kernel_rfl
def SignsPost (w : World) (R : List RS) (e : Ending) (w' : World) : Prop := ∃ v, e = .returned v ∧ w'.ownsRow w.heap.size 83 259 v R.length (R.flatMap rsC) ∧ Below w.heap.size w w'
set_option maxRecDepth 100000 in
set_option maxHeartbeats 4000000 in
theorem signs_ref (s : ByteArray) (w : World) (hs : s.size ≤ 274877906944) : Calls Tryz.prog 44 #[.string s] w (SignsPost w (rs (bl s))) := by
  obtain ⟨R, hR⟩ : ∃ R, rs (bl s) = R := ⟨_, rfl⟩
  rw [hR]
  have HR := Lib.hid hR
  clear hR
  have HZ := run_zeroSign
  go_enter Tryz.func44, Tryz.ntmps44
  go_wp2
  go_loopg [3, 4] s.size (fun gh v a wr => ∃ (a0 : Nat) (L : List RS), Hid (a0 + gh = s.size) ∧ a = .int .i64 a0 ∧ Hid (L ++ rs ((bl s).drop a0) = R) ∧ L.length ≤ a0 ∧ Hid (wr.ownsRow w.heap.size 83 259 v L.length (L.flatMap rsC)) ∧ Hid (Below w.heap.size w wr))
  case atStart => exact ⟨0, [], by show _ = _; omega, rfl, HR.out, by simp, World.ownsRow_nil _ _ _ _, Below.refl _ _⟩
  case round =>
    obtain ⟨a, L, HG, rfl, HL, hLa, HO, HB⟩ := hrel
    obtain ⟨v, rfl⟩ : ∃ v, v = u3 := ⟨_, rfl⟩
    have hale : a ≤ s.size := by have := HG.out; omega
    by_cases ha : a < s.size
    case neg =>
      have e1 := HL.out
      rw [bl_end s a (by omega), rs_nil, List.append_nil] at e1
      have HE := Lib.hid e1
      clear e1
      have g : decide (a < s.size) = false := by simpa using ha
      go_wp2
      go_ret
      exact ⟨v, rfl, by rw [← HE.out]; exact HO.out, HB.out⟩
    case pos =>
      have hd := bl_drop s a ha
      obtain ⟨r, hr⟩ : ∃ r, (rs1 ((bl s).drop a)).1 = r := ⟨_, rfl⟩
      obtain ⟨n, hn⟩ : ∃ n, (rs1 ((bl s).drop a)).2 = n := ⟨_, rfl⟩
      have hnp := rs1_pos ((bl s).drop a)
      have hnl := rs1_le ((bl s).drop a) (by rw [hd]; simp)
      rw [List.length_drop, bl_len, hn] at hnl
      rw [hn] at hnp
      have hnext : L ++ [r] ++ rs ((bl s).drop (a + n)) = R := by
        have h1 := HL.out
        rw [hd, rs_cons, ← hd, hr, hn, List.drop_drop] at h1
        rw [← h1]; simp
      have HN := Lib.hid hnext
      have HR1 := Lib.hid hr
      have HN1 := Lib.hid hn
      have HD := Lib.hid hd
      clear hnext hr hn hd
      go_upto_block 2 with (fail)
      have hs0 := SignAt.new wr
      have hb0 : Below wr.heap.size wr (wr.alloc (.cells (signC false (fun _ => false) 0 false).toArray 83)) := (Below.refl _ _).alloc (Nat.le_refl _) _
      have hz0 : wr.heap.size < (wr.alloc (.cells (signC false (fun _ => false) 0 false).toArray 83)).heap.size := by simp
      obtain ⟨w5, hw5⟩ : ∃ w5, wr.alloc (.cells (signC false (fun _ => false) 0 false).toArray 83) = w5 := ⟨_, rfl⟩
      rw [hw5] at hs0 hb0 hz0 ⊢
      have HS0 := Lib.hid hs0
      have HB0 := Lib.hid hb0
      clear hw5 hs0 hb0 HZ
      go_cut [4, 6] from 11 to 69 (fun a4 a6 wc => a4 = .int .i64 ((a + n : Nat) : Int) ∧ Hid (SignAt wc wr.heap.size r.st r.T r.one r.pl) ∧ Hid (Below wr.heap.size wr wc))
      case first =>
        by_cases h42 : s[a] = 42
        · have q1 : (((s[a].toNat : Nat) : Int) == 42) = true := by rw [h42]; rfl
          have e1 : rs1 ((bl s).drop a) = (⟨true, fun _ => false, 0, false⟩, 1) := by rw [HD.out, h42]; rfl
          rw [e1] at HR1 HN1
          obtain rfl := HR1.out
          obtain rfl : 1 = n := HN1.out
          have hz := HS0.out.frozen 0
          have hc := HS0.out.cell 0
          rw [signC_zero] at hc
          have HS1 := Lib.hid (HS0.out.star true)
          have HB1 := Lib.hid (HB0.out.setCell (p := ⟨wr.heap.size, 0, none⟩) (Nat.le_refl _) (.bool true))
          clear h42 e1 HR1 HN1
          go_wp2
          go_meet
          case rel => exact ⟨rfl, HS1, HB1⟩
        have q42 : (((s[a].toNat : Nat) : Int) == 42) = false := byte_ne _ 42 (by decide) h42
        by_cases h63 : s[a] = 63
        · have q1 : (((s[a].toNat : Nat) : Int) == 63) = true := by rw [h63]; rfl
          have e1 : rs1 ((bl s).drop a) = (⟨false, fun _ => true, 0, false⟩, 1) := by rw [HD.out, h63]; rfl
          rw [e1] at HR1 HN1
          obtain rfl := HR1.out
          obtain rfl : 1 = n := HN1.out
          clear h42 h63 e1 HR1 HN1
          go_wp2
          go_loopg [6] 256 (fun gh x wx => ∃ (j : Nat), Hid (j + gh = 256) ∧ x = .int .i64 j ∧ Hid (SignAt wx wr.heap.size false (upd (fun _ => false) (fun _ => true) j) 0 false) ∧ Hid (Below wr.heap.size wr wx))
          case atStart => exact ⟨0, rfl, rfl, by rw [upd_zero]; exact HS0, HB0⟩
          case round =>
            obtain ⟨wo, rfl⟩ : ∃ wo, wo = wr := ⟨_, rfl⟩
            obtain ⟨j, HJ, rfl, HSJ, HBJ⟩ := hrel
            by_cases hj : j < 256
            · have hz := HSJ.out.frozen (1 + j)
              have hc := HSJ.out.tab j hj
              have HS1 := Lib.hid (HSJ.out.set (T' := fun _ => true) hj)
              have HB1 := Lib.hid (HBJ.out.setCell (p := ⟨_, 1 + j, none⟩) (Nat.le_refl _) (.bool true))
              have hj0 : (0 : Int) ≤ (j : Int) := by omega
              have hj1 : (j : Int) < 256 := by omega
              go_wp2
              go_roundg (256 - (j + 1))
              case measure => have := HJ.out; omega
              case rel => exact ⟨j + 1, by show _ = _; omega, by go_num, HS1, HB1⟩
            · obtain rfl : j = 256 := by have := HJ.out; omega
              rw [upd_all] at HSJ
              go_wp2
              go_meet
              case rel => exact ⟨rfl, HSJ, HBJ⟩
        have q63 : (((s[a].toNat : Nat) : Int) == 63) = false := byte_ne _ 63 (by decide) h63
        by_cases h91 : s[a] = 91
        · have q1 : (((s[a].toNat : Nat) : Int) == 91) = true := by rw [h91]; rfl
          have e1 : rs1 ((bl s).drop a) = (⟨false, (setAt ((bl s).drop (a + 1))).1, 0, false⟩, 1 + (setAt ((bl s).drop (a + 1))).2) := by rw [HD.out, h91]; rfl
          rw [e1] at HR1 HN1
          obtain rfl := HR1.out
          have hn1 : 1 + (setAt ((bl s).drop (a + 1))).2 = n := HN1.out
          have HF := refSet_any s (a + 1) w5 (by omega) (by omega)
          obtain ⟨Z, hZ⟩ : ∃ Z, (signC false (setAt ((bl s).drop (a + 1))).1 0 false).toArray = Z := ⟨_, rfl⟩
          have hpl : a + 1 + (setAt ((bl s).drop (a + 1))).2 = a + n := by omega
          rw [hZ, hpl] at HF
          have HFF := Lib.hid HF
          have HZZ := Lib.hid hZ
          have hzs : Z.size = 259 := by rw [← hZ, List.size_toArray, signC_len]
          have hz1 : Z.all (·.oneCell') = true := by rw [← hZ]; exact signC_one _ _ _ _
          have hi : (Tryz.prog.info? 83).map (·.size) = some Z.size := by rw [hzs]; kernel_rfl
          have HZS := Lib.hid hzs
          have HZ1 := Lib.hid hz1
          have HI := Lib.hid hi
          clear h42 h63 h91 e1 HR1 HN1 hn1 HF hZ hpl hzs hz1 hi
          go_wp2_with fail
          refine HFF.out.mono ?_
          rintro e w6 ⟨rfl, hb6⟩
          have hs6 : SignAt w6 wr.heap.size false (fun _ => false) 0 false := HS0.out.fr (Fr.of_below hb6) (by omega)
          have HS6 := Lib.hid hs6
          have HB6 := Lib.hid (HB0.out.trans (hb6.mono HB0.out.size))
          clear hs6 hb6
          go_wp2_with (refine wpList_store_rowTo rfl 83 (.tmp 5) (.tmp 68) rfl rfl wr.heap.size Z rfl rfl 83 _ HS6.out HI.out (by rw [List.size_toArray, signC_len, HZS.out]) HZ1.out ?_)
          have HS7 : Hid (SignAt (w6.setRow wr.heap.size Z) wr.heap.size false (setAt ((bl s).drop (a + 1))).1 0 false) := by
            show _ = _
            rw [HZZ.out]
            exact setRow_heap _ _ _ _ _ _ HS6.out
          have HB7 : Hid (Below wr.heap.size wr (w6.setRow wr.heap.size Z)) := HB6.out.trans ⟨rfl, rfl, rfl, by simp, fun q hq => setRow_other _ _ _ _ (by omega)⟩
          go_meet
          case rel => exact ⟨rfl, HS7, HB7⟩
        have q91 : (((s[a].toNat : Nat) : Int) == 91) = false := byte_ne _ 91 (by decide) h91
        have e1 := rs1_lit s[a] ((bl s).drop (a + 1)) h42 h63 h91
        rw [← HD.out] at e1
        rw [e1] at HR1 HN1
        obtain rfl := HR1.out
        have hn1 : (lit ((bl s).drop a)).2 = n := HN1.out
        obtain ⟨x, hx⟩ : ∃ x, (lit ((bl s).drop a)).1 = x := ⟨_, rfl⟩
        have hpl : ∃ h : a + n - 1 < s.size, s[a + n - 1] = x ∧ (n = 1 ∨ n = 2) ∧ ((s[a] = 92 ∧ a + 1 < s.size) ↔ n = 2) := by
          by_cases hb : s[a] = 92
          · by_cases hlt : a + 1 < s.size
            · have hl := lit_esc s a hlt hb
              rw [hl] at hn1 hx
              subst hn1
              exact ⟨by show a + 2 - 1 < _; omega, hx, .inr rfl, fun _ => rfl, fun _ => ⟨hb, hlt⟩⟩
            · have hl := lit_one s a ha (.inr hlt)
              rw [hl] at hn1 hx
              subst hn1
              exact ⟨by show a + 1 - 1 < _; omega, hx, .inl rfl, fun h => absurd h.2 hlt, fun h => absurd h (by show ¬ (1 : Nat) = 2; decide)⟩
          · have hl := lit_one s a ha (.inl hb)
            rw [hl] at hn1 hx
            subst hn1
            exact ⟨by show a + 1 - 1 < _; omega, hx, .inl rfl, fun h => absurd h.1 hb, fun h => absurd h (by show ¬ (1 : Nat) = 2; decide)⟩
        have HX := Lib.hid hx
        have HPL := Lib.hid hpl
        clear h42 h63 h91 e1 HR1 HN1 hn1 hx hpl
        go_upto_region 5 with (fail)
        go_cut [21] from 11 to 21 (fun t wc => wc = w5 ∧ t = .bool (decide (n = 2)))
        case first =>
          by_cases hb : s[a] = 92
          · have q2 : (((s[a].toNat : Nat) : Int) == 92) = true := by rw [hb]; rfl
            by_cases hlt : a + 1 < s.size
            · obtain ⟨_, _, _, h4⟩ := HPL.out
              obtain rfl := h4.1 ⟨hb, hlt⟩
              have q3 : decide ((a : Int) + 1 < s.size) = true := by simp; omega
              clear hb h4
              go_wp2
              go_meet
              case rel => exact ⟨rfl, rfl⟩
            · obtain ⟨_, _, h3, h4⟩ := HPL.out
              obtain rfl : n = 1 := h3.resolve_right (fun e => hlt (h4.2 e).2)
              have q3 : decide ((a : Int) + 1 < s.size) = false := by simp; omega
              clear hb h4
              go_wp2
              go_meet
              case rel => exact ⟨rfl, rfl⟩
          · have q2 : (((s[a].toNat : Nat) : Int) == 92) = false := byte_ne _ 92 (by decide) hb
            obtain ⟨_, _, h3, h4⟩ := HPL.out
            obtain rfl : n = 1 := h3.resolve_right (fun e => hb (h4.2 e).1)
            clear hb h4
            go_wp2
            go_meet
            case rel => exact ⟨rfl, rfl⟩
        case rest =>
        obtain ⟨rfl, rfl⟩ := hcut
        obtain ⟨w5, rfl⟩ : ∃ w5, w5 = wc := ⟨_, rfl⟩
        go_upto_if 21 with (fail)
        go_cut [4] from 21 to 23 (fun a4 wc => wc = w5 ∧ a4 = .int .i64 ((a + n - 1 : Nat) : Int))
        case first =>
          rcases HPL.out.2.2.1 with rfl | rfl
          · go_wp2
            go_meet
            case rel => exact ⟨rfl, rfl⟩
          · go_wp2
            go_meet
            case rel => exact ⟨rfl, rfl⟩
        case rest =>
        obtain ⟨rfl, rfl⟩ := hcut
        obtain ⟨w5, rfl⟩ : ∃ w5, w5 = wc := ⟨_, rfl⟩
        obtain ⟨hp1, hp2, hp3, _⟩ := HPL.out
        obtain ⟨p, hp⟩ : ∃ p, a + n - 1 = p := ⟨_, rfl⟩
        have hap : a + n = p + 1 := by omega
        have hsp : ∃ h : p < s.size, s[p] = x := by subst hp; exact ⟨hp1, hp2⟩
        obtain ⟨hps, hpx⟩ := hsp
        rw [hp]
        have hx8 : x.toNat < 256 := x.toNat_lt
        have hx9 : (x.toNat : Int) < 256 := by omega
        have hx0 : (0 : Int) ≤ (x.toNat : Int) := by omega
        have c1 := HS0.out.tab x.toNat hx8
        have c2 := HS0.out.cell 257
        rw [signC_last0 _ _ _ _ 257 rfl] at c2
        have c3 := HS0.out.cell 258
        rw [signC_last1 _ _ _ _ 258 rfl] at c3
        have z1 := HS0.out.frozen (1 + x.toNat)
        have z2 := HS0.out.frozen 257
        have z3 := HS0.out.frozen 258
        have S1 := (((HS0.out.put x).oneSet x).plSet true)
        have B1 := ((HB0.out.setCell (p := ⟨wr.heap.size, 1 + x.toNat, none⟩) (Nat.le_refl _) (.bool true)).setCell (p := ⟨wr.heap.size, 257, none⟩) (Nat.le_refl _) (.int .u8 x.toNat)).setCell (p := ⟨wr.heap.size, 258, none⟩) (Nat.le_refl _) (.bool true)
        have HS1 := Lib.hid S1
        have HB1 := Lib.hid B1
        have HAP := Lib.hid hap
        have HPX := Lib.hid hpx
        clear S1 B1 hp hp1 hp2 hp3 hap HPL HG HL HN
        go_wp2
        go_meet
        case rel =>
          refine ⟨by rw [HAP.out]; rfl, ?_, HB1⟩
          show SignAt _ _ _ (fun y => (lit ((bl s).drop a)).1 == y) (lit ((bl s).drop a)).1 _
          rw [HX.out]
          exact HS1.out
      case rest =>
      obtain ⟨rfl, HS5, HB5⟩ := hcut
      have hs5 := HS5.out
      unfold SignAt at hs5
      obtain ⟨Z, hZ⟩ : ∃ Z, (signC r.st r.T r.one r.pl).toArray = Z := ⟨_, rfl⟩
      have hzs : Z.size = 259 := by rw [← hZ, List.size_toArray, signC_len]
      have hz1 : ∀ u ∈ Z.toList, u.oneCell' = true := by
        have := signC_one r.st r.T r.one r.pl
        rw [hZ, ← Array.toArray_toList (xs := Z), List.all_toArray, List.all_eq_true] at this
        simpa using this
      have hzl : Z.toList = rsC r := by rw [← hZ]; rfl
      rw [hZ] at hs5
      have hi : (Tryz.prog.info? 83).map (·.size) = some Z.size := by rw [hzs]; kernel_rfl
      have hfill : Instr.fill (fun i => some (i * 259, 259)) ((Array.range (1 * 259)).map ((Value.agg (signC false (fun _ => false) 0 false).toArray).cells[· % (Value.agg (signC false (fun _ => false) 0 false).toArray).cells.size]!)) [(0, .agg Z)] = some Z := by
        have := Great.fill_whole (s := 259) (by decide) [.agg Z] ((Array.range (1 * 259)).map ((Value.agg (signC false (fun _ => false) 0 false).toArray).cells[· % (Value.agg (signC false (fun _ => false) 0 false).toArray).cells.size]!)) (fun v hv => by rw [List.mem_singleton.1 hv]; exact hzs) (by simp)
        rw [show ([Value.agg Z].zipIdx 0).map (fun x => (x.2, x.1)) = [(0, .agg Z)] from rfl] at this
        rw [this]
        simp [Value.cells]
      obtain ⟨i0, hi0, hj0, hj1, hj2⟩ := info_parts infoSign
      have hownL : wc.ownsRow w.heap.size 83 259 v L.length (L.flatMap rsC) := owns_fr HO.out (Fr.of_below HB5.out) (fun g hg h => by have := (HO.out.lt g hg).2; omega)
      have HOW := Lib.hid hownL
      have HS9 := Lib.hid hs5
      have HZS := Lib.hid hzs
      have HZ1 := Lib.hid hz1
      have HZL := Lib.hid hzl
      have HI := Lib.hid hi
      have HFI := Lib.hid hfill
      have HI0 := Lib.hid hi0
      have HJ0 := Lib.hid hj0
      have HJ1 := Lib.hid hj1
      have HJ2 := Lib.hid hj2
      have HBC := Lib.hid (HB.out.trans (HB5.out.mono HB.out.size))
      clear hs5 hZ hzs hz1 hzl hi hfill hi0 hj0 hj1 hj2 hownL
      have hbs : ∀ w, (Instr.buildSlice 78 1 #[(0, .agg Z)]).run Tryz.prog w = .ok (.slice (some ⟨w.heap.size, 0, none⟩) 1 1) (w.alloc (.cells Z 83)) := fun w =>
        run_buildSlice w 78 83 1 #[(0, .agg Z)] Z i0 (.agg (signC false (fun _ => false) 0 false).toArray) Tryz.underlying78 HI0.out HJ0.out (by rw [HJ1.out]; decide) (by rw [HJ1.out]; decide) (by rw [HJ1.out]; exact HFI.out)
      go_wp2_with (first
        | (refine wpList_load_row rfl 83 (.tmp 5) rfl wr.heap.size rfl 83 Z (0, 0) _ HS9.out Tryz.underlying83 rfl HI.out ?_)
        | fail)
      refine wp_buildSlice 78 83 1 #[(0, .tmp 71)] rfl Z i0 (.agg (signC false (fun _ => false) 0 false).toArray) Tryz.underlying78 HI0.out HJ0.out ?h1 ?h2 ?h3 ?_
      case h1 => rw [HJ1.out]; decide
      case h2 => rw [HJ1.out]; decide
      case h3 =>
        rw [HJ1.out]
        have e : ∀ (a : Act), a.eval (.tmp 71) = .agg Z → ((#[(0, Operand.tmp 71)] : Array (Nat × Operand)).map fun (i, x) => (i, a.eval x)).toList = [(0, .agg Z)] := fun a ha => by
          rw [Array.toList_map]
          show [(0, a.eval (.tmp 71))] = _
          rw [ha]
        rw [e _ (by simp [Act.eval, Act.put])]
        exact HFI.out
      have hzc : (Value.agg (signC false (fun _ => false) 0 false).toArray).cells.size = 259 := by
        show (signC false (fun _ => false) 0 false).toArray.size = 259
        rw [List.size_toArray, signC_len]
      have hrd : RdC (wc.alloc (.cells Z 83)) 259 (.slice (some ⟨wc.heap.size, 0, none⟩) 1 1) 1 (rsC r) := by
        have h1 := World.ownsRow_lit (e := 83) wc Z 1 (Nat.le_refl _) (by decide) (size := 259) (by rw [HZS.out])
        rw [HZL.out] at h1
        exact RdC.of_owns h1
      have hz1' : ∀ u ∈ rsC r, u.oneCell' = true := by rw [← HZL.out]; exact HZ1.out
      have hbs' : w.heap.size ≤ (wc.alloc (.cells Z 83)).heap.size := by have := HBC.out.size; simp; omega
      have HZC := Lib.hid hzc
      have HRD := Lib.hid hrd
      have HZ1' := Lib.hid hz1'
      have HBS := Lib.hid hbs'
      clear HFI HI HS9 hbs hzc hrd hz1' hbs'
      go_wp2_with (at_builtin; refine wpl_append rfl (.tmp 70) (.tmp 72) 78 rfl w.heap.size 83 i0 (.agg (signC false (fun _ => false) 0 false).toArray) 259 259 Tryz.underlying78 HI0.out HJ0.out HJ1.out HJ2.out HZC.out (by decide) _ L.length _ rfl (HOW.out.alloc _) _ 1 (rsC r) rfl HRD.out HZ1'.out (by unfold maxLen; omega) (by omega) HBS.out ?_; intro v' w3 hown hgrow; have HO3 := Lib.hid hown; have HGR := Lib.hid hgrow; clear hown hgrow)
      have HO4 : Hid (w3.ownsRow w.heap.size 83 259 v' (L ++ [r]).length ((L ++ [r]).flatMap rsC)) := by
        have h1 := HO3.out
        show World.ownsRow _ _ _ _ _ _ _
        rw [List.length_append, List.flatMap_append, List.flatMap_singleton]
        exact h1
      have HB9 : Hid (Below w.heap.size w w3) := by
        have h1 : Below w.heap.size wc (wc.alloc (.cells Z 83)) := (Below.refl _ _).alloc HBC.out.size _
        have h2 : Below w.heap.size (wc.alloc (.cells Z 83)) w3 := (Fr.of_grownBy HGR.out).below HBS.out (fun i hi => (HOW.out.lt i hi).1)
        exact (HBC.out.trans h1).trans h2
      go_roundg (s.size - (a + n))
      case measure => have := HG.out; omega
      case rel => exact ⟨a + n, L ++ [r], by show _ = _; omega, rfl, HN.out, by simp; omega, HO4, HB9⟩
end Go.Proofs.YtleoeccjnchclaaGreatDoor
