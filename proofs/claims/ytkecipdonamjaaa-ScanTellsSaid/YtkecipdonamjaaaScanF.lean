/- The walks of stays and rest. No condition. -/
import Derived.Test.YtkecipdonamjaaaScanE
namespace Go.Proofs.Ytkecipdonamjaaa
open Go.ChangeShapes Go.WideShapes Go.ChangeAt Go.RowKit Di
/-- the keys of a list that a change leaves -/
def staysL (o : Ch) (l : List ByteArray) : List ByteArray := if o.do_ = 4 then [] else l.filter fun x => !decide (o.do_ = 2) || !decide (x = o.key)
theorem staysL_len (o : Ch) (l : List ByteArray) : (staysL o l).length ≤ l.length := by
  unfold staysL
  split
  · simp
  · exact List.length_filter_le _ _
theorem filter_snoc {α : Type} (p : α → Bool) (l : List α) (k : Nat) (h : k < l.length) : (l.take (k + 1)).filter p = (l.take k).filter p ++ if p l[k] then [l[k]] else [] := by
  rw [List.take_succ_eq_append_getElem h, List.filter_append]
  congr 1
  simp only [List.filter_cons, List.filter_nil]
set_option maxRecDepth 100000 in
set_option maxHeartbeats 4000000 in
theorem stays_any (w : World) (v0 : Value) (l : List ByteArray) (o : Ch) (h : RdC w 1 v0 l.length (l.map .string)) (hl : l.length ≤ 1099511627776) :
    Calls Try.prog 56 #[v0, chVal o] w fun e w' => ∃ v, e = .returned v ∧ RowS w.heap.size w' v (staysL o l) ∧ Below w.heap.size w w' := by
  have H1 := Lib.hid h
  obtain ⟨-, a1, c1, rfl, -⟩ := h
  unfold chVal
  obtain ⟨kd, hkd⟩ : ∃ k, o.do_ = k := ⟨_, rfl⟩
  obtain ⟨key, hkey⟩ : ∃ k, o.key = k := ⟨_, rfl⟩
  have hst : staysL o l = if kd = 4 then [] else l.filter fun x => !decide (kd = 2) || !decide (x = key) := by rw [← hkd, ← hkey]; rfl
  rw [hkd, hkey]
  have HST := Lib.hid hst
  have hb0 := alloc_at w (.cells #[.int .i64 kd, .string key] 84)
  have HB0 := Lib.hid hb0
  have HBL : Hid (Below w.heap.size w (w.alloc (.cells #[.int .i64 kd, .string key] 84))) := (Below.refl _ _).alloc (Nat.le_refl _) _
  obtain ⟨i0, hi, hz0, hz1, hz2⟩ := info_parts info_str
  have HI := Lib.hid hi
  have HZ0 := Lib.hid hz0
  have HZ1 := Lib.hid hz1
  have HZ2 := Lib.hid hz2
  clear hkd hkey hst hb0 hi hz0 hz1 hz2
  go_enter Try.func56, Try.ntmps56
  by_cases h4 : kd = 4
  · subst h4
    rw [if_pos rfl] at HST
    go_wp2
    go_ret
    exact ⟨_, rfl, by rw [HST.out]; exact World.ownsRow_nil _ _ _ _, HBL.out⟩
  · rw [if_neg h4] at HST
    have g4 : (kd == 4) = false := beq_eq_false_iff_ne.2 h4
    obtain ⟨p, hp⟩ : ∃ p : ByteArray → Bool, p = fun x => !decide (kd = 2) || !decide (x = key) := ⟨_, rfl⟩
    have HP := Lib.hid hp
    rw [← hp] at HST
    clear hp
    go_wp2
    go_loopw [5, 6] (fun v i wr => ∃ k : Nat, i = .int .i64 k ∧ k ≤ l.length ∧ Hid (RowS w.heap.size wr v ((l.take k).filter p)) ∧ Hid (wr.heap[w.heap.size]? = some (.cells #[.int .i64 kd, .string key] 84 (0, 0))) ∧ Hid (Below w.heap.size w wr)) (fun _ i _ => l.length - (intOf i).toNat)
    case atStart => exact ⟨0, rfl, by omega, World.ownsRow_nil _ _ _ _, HB0, HBL⟩
    case round =>
      obtain ⟨k, rfl, hk, HR, HB, HL⟩ := hrel
      obtain ⟨v, rfl⟩ : ∃ v, v = u5 := ⟨_, rfl⟩
      obtain ⟨wo, rfl⟩ : ∃ wo, wo = wr := ⟨_, rfl⟩
      clear HB0 HBL
      by_cases hlt : k < l.length
      · have d0 : wo.cell? ⟨w.heap.size, 0, none⟩ = some (.int .i64 kd) := by rw [cell_of_blk HB.out]; rfl
        have d1 : wo.cell? ⟨w.heap.size, 1, none⟩ = some (.string key) := by rw [cell_of_blk HB.out]; rfl
        obtain ⟨g1, o1, rfl, c1⟩ := texts_at (H1.out.below HL.out) k hlt
        obtain ⟨x, hx⟩ : ∃ x, l[k] = x := ⟨_, rfl⟩
        rw [hx] at c1
        have hsn := filter_snoc p l k hlt
        rw [hx] at hsn
        have HSN := Lib.hid hsn
        have hk1 : ((l.take k).filter p).length ≤ 1099511627776 := Nat.le_trans (List.length_filter_le _ _) (by rw [List.length_take]; omega)
        obtain ⟨S, hS⟩ : ∃ S, (l.take k).filter p = S := ⟨_, rfl⟩
        rw [hS] at HR HSN hk1
        have hb0 : (0 : Int) ≤ (k : Int) := by omega
        have hb1 : (k : Int) < (l.length : Int) := by omega
        have hr0 := HR.out
        obtain ⟨va, vc, rfl⟩ := owns_slice hr0
        clear hx hsn hS hr0
        by_cases h2 : kd = 2
        · subst h2
          by_cases hxy : x = key
          · have hq : (x.toList == key.toList) = true := by rw [str_beq]; simpa using hxy
            have hq2 : (x.toList != key.toList) = false := by simp [bne, hq]
            have hpx : p x = false := by rw [HP.out]; simp [hxy]
            rw [hpx] at HSN
            have HS2 : Hid ((l.take (k + 1)).filter p = S) := by show _ = _; rw [HSN.out]; simp
            clear hxy hpx HSN
            go_upto_region 7 with (fail)
            go_quiet (fail)
            go_wp2
            go_roundw
            case rel =>
              refine ⟨k + 1, by go_num, by omega, ?_, ?_, ?_⟩
              · rw [HS2.out]; exact owns_fr HR.out (Fr.drewN (fun _ => False) wo nq) (fun _ _ h => h)
              · exact HB.out
              · exact HL.out.trans ((Fr.drewN (fun _ => False) wo nq).below HL.out.size (fun _ h => h.elim))
            case measure => simp [intOf]; omega
          · have hq : (x.toList == key.toList) = false := by rw [str_beq]; simpa using hxy
            have hq2 : (x.toList != key.toList) = true := by simp [bne, hq]
            have hpx : p x = true := by rw [HP.out]; simp [hxy]
            rw [hpx] at HSN
            have HS2 : Hid ((l.take (k + 1)).filter p = S ++ [x]) := by show _ = _; rw [HSN.out]; simp
            clear hxy hpx HSN
            go_upto_region 7 with (fail)
            go_quiet (fail)
            have HR2 := Lib.hid (owns_fr HR.out (Fr.drewN (fun _ => False) wo nq) (fun _ _ h => h))
            have HL2 := Lib.hid (HL.out.trans ((Fr.drewN (fun _ => False) wo nq).below HL.out.size (fun _ h => h.elim)))
            have HA2 := Lib.hid (HL2.out.alloc HL2.out.size (.cells #[.string x] 9))
            have c1' : (wo.drewN nq).cell? ⟨g1, o1 + k, none⟩ = some (.string x) := c1
            go_wp2_with (at_builtin; refine wpl_append rfl (.tmp 28) (.tmp 33) 47 rfl w.heap.size 9 i0 (.string ⟨#[]⟩) 1 16 Try.underlying47 HI.out HZ0.out HZ1.out HZ2.out rfl (by decide) _ S.length _ rfl (HR2.out.alloc _) _ 1 [.string x] rfl (RdC.of_owns (World.ownsRow_lit (e := 9) (wo.drewN nq) #[.string x] 1 (Nat.le_refl _) (by decide) rfl)) (by simp [Value.oneCell']) (by unfold maxLen; omega) (by omega) HA2.out.size ?_; intro v' w8 hown hgrow; have HO8 := Lib.hid hown; have HG8 := Lib.hid hgrow; clear hown hgrow)
            go_roundw
            case rel =>
              refine ⟨k + 1, by go_num, by omega, ?_, ?_, ?_⟩
              · rw [HS2.out]; exact rowS_app (K := [x]) HO8.out
              · have hbx : ((wo.drewN nq).alloc (.cells #[.string x] 9)).heap[w.heap.size]? = some (.cells #[.int .i64 2, .string key] 84 (0, 0)) := (Below.heap_alloc _ _ _ (Array.getElem?_eq_some_iff.1 HB.out).1).trans HB.out
                refine ((Fr.of_grownBy HG8.out).block _ (Array.getElem?_eq_some_iff.1 hbx).1 (fun e => ?_)).trans hbx
                rcases HR2.out.2 with ⟨e0, _⟩ | ⟨g, cap, cur, e0, _, hg, _⟩
                · rw [e0] at e; cases e
                · rw [e0] at e; cases e; have e3 := hg.symm.trans HB.out; simp only [Option.some.injEq, Obj.cells.injEq] at e3; exact absurd e3.2.1 (by decide)
              · exact HA2.out.grown HG8.out HA2.out.size (fun g hg => (HR2.out.lt g hg).1)
            case measure => simp [intOf]; omega
        · have hne2 : (kd != 2) = true := by rw [bne_iff_ne]; exact h2
          have hpx : p x = true := by rw [HP.out]; simp [h2]
          rw [hpx] at HSN
          have HS2 : Hid ((l.take (k + 1)).filter p = S ++ [x]) := by show _ = _; rw [HSN.out]; simp
          clear hpx HSN
          go_upto_region 7 with (fail)
          go_quiet (fail)
          have HR2 := Lib.hid (owns_fr HR.out (Fr.drewN (fun _ => False) wo nq) (fun _ _ h => h))
          have HL2 := Lib.hid (HL.out.trans ((Fr.drewN (fun _ => False) wo nq).below HL.out.size (fun _ h => h.elim)))
          have HA2 := Lib.hid (HL2.out.alloc HL2.out.size (.cells #[.string x] 9))
          have c1' : (wo.drewN nq).cell? ⟨g1, o1 + k, none⟩ = some (.string x) := c1
          go_wp2_with (at_builtin; refine wpl_append rfl (.tmp 28) (.tmp 33) 47 rfl w.heap.size 9 i0 (.string ⟨#[]⟩) 1 16 Try.underlying47 HI.out HZ0.out HZ1.out HZ2.out rfl (by decide) _ S.length _ rfl (HR2.out.alloc _) _ 1 [.string x] rfl (RdC.of_owns (World.ownsRow_lit (e := 9) (wo.drewN nq) #[.string x] 1 (Nat.le_refl _) (by decide) rfl)) (by simp [Value.oneCell']) (by unfold maxLen; omega) (by omega) HA2.out.size ?_; intro v' w8 hown hgrow; have HO8 := Lib.hid hown; have HG8 := Lib.hid hgrow; clear hown hgrow)
          go_roundw
          case rel =>
            refine ⟨k + 1, by go_num, by omega, ?_, ?_, ?_⟩
            · rw [HS2.out]; exact rowS_app (K := [x]) HO8.out
            · have hbx : ((wo.drewN nq).alloc (.cells #[.string x] 9)).heap[w.heap.size]? = some (.cells #[.int .i64 kd, .string key] 84 (0, 0)) := (Below.heap_alloc _ _ _ (Array.getElem?_eq_some_iff.1 HB.out).1).trans HB.out
              refine ((Fr.of_grownBy HG8.out).block _ (Array.getElem?_eq_some_iff.1 hbx).1 (fun e => ?_)).trans hbx
              rcases HR2.out.2 with ⟨e0, _⟩ | ⟨g, cap, cur, e0, _, hg, _⟩
              · rw [e0] at e; cases e
              · rw [e0] at e; cases e; have e3 := hg.symm.trans HB.out; simp only [Option.some.injEq, Obj.cells.injEq] at e3; exact absurd e3.2.1 (by decide)
            · exact HA2.out.grown HG8.out HA2.out.size (fun g hg => (HR2.out.lt g hg).1)
          case measure => simp [intOf]; omega
      · obtain rfl : k = l.length := by omega
        rw [List.take_length] at HR
        go_wp2
        go_ret
        exact ⟨_, rfl, by rw [HST.out]; exact HR.out, HL.out⟩
end Go.Proofs.Ytkecipdonamjaaa
