/- The walk of package dict's Bucket at int. -/
import Derived.Test.YtkecipdonamjaaaDiW8
namespace Go.Proofs.Ytkecipdonamjaaa.Di
open Go.RowKit

theorem infoStr : (Try.prog.info? 9).map (fun i => (i.zero, i.size, i.bytes)) = some (some (.string ⟨#[]⟩), 1, 16) := by kernel_rfl
def tabOf (M : DM) (table : Int) : List (List E) := if table = 1 then M.young else M.old
/-- the keys of a bucket -/
def bucketK (M : DM) (table i : Int) : List ByteArray := if (table = 0 ∨ table = 1) ∧ 0 ≤ i then (((tabOf M table)[i.toNat]?).getD []).map E.key else []
def SomeTexts (w : World) (l : List ByteArray) (e : Ending) (w' : World) : Prop :=
  ∃ v, e = .returned v ∧ w'.ownsRow w.heap.size 9 1 v l.length (l.map .string) ∧ Below w.heap.size w w'
theorem bel_cell {w w' : World} (hb : Below w.heap.size w w') {a : Addr} {v : Value} (hc : w.cell? a = some v) : w'.cell? a = some v := (hb.cell (World.block_lt_of_cell? w a hc)).trans hc
/-- a chain in memory: each entry's key, and where it leads -/
def ChainAt (w : World) (c : List E) : Prop := ∀ pre x post, c = pre ++ x :: post → w.cell? ⟨x.b, 0, none⟩ = some (.string x.key) ∧ w.cell? ⟨x.b, 2, none⟩ = some (hp post)
theorem chain_of {w : World} {cs : List (List E)} {i : Nat} {c : List E} (h : Rep w (chainsO 114 cs)) (hc : cs[i]? = some c) (hz : ∀ e ∈ c, e.val.length = 1) : ChainAt w c := by
  intro pre x post he
  subst he
  have hm := mid_at h hc
  refine ⟨key_cell h hc, ?_⟩
  rw [cell_of_blk hm]
  match hv : x.val, hz x (by simp) with
  | [x0], _ => rfl
theorem ChainAt.below {w w' : World} {c : List E} (h : ChainAt w c) (hb : Below w.heap.size w w') : ChainAt w' c := fun pre x post he => ⟨bel_cell hb (h pre x post he).1, bel_cell hb (h pre x post he).2⟩
theorem one_str (l : List ByteArray) : ∀ u ∈ l.map Value.string, u.oneCell' = true := by
  intro u hu; obtain ⟨x, _, rfl⟩ := List.mem_map.1 hu; rfl
set_option maxRecDepth 100000 in
set_option maxHeartbeats 1000000 in
theorem bucket_any (w : World) (d : Nat) (M : DM) (table i : Int) (h : DAt w d M) (hn : M.n ≤ 4398046511104) :
    Calls Try.prog 30 #[.pointer (some ⟨d, 0, none⟩), .int .i64 table, .int .i64 i] w (SomeTexts w (bucketK M table i)) := by
  obtain ⟨i0, hi, hz0, hz1, hz2⟩ := info_parts infoStr
  have hnone : bucketK M table i = [] → SomeTexts w (bucketK M table i) (.returned (.slice none 0 0)) w := fun e => by
    rw [e]; exact ⟨_, rfl, World.ownsRow_nil _ _ _ _, Below.refl _ _⟩
  have HN := Lib.hid hnone; clear hnone
  by_cases ht : table = 0 ∨ table = 1
  case neg =>
    have g0 : (table == 0) = false := beq_eq_false_iff_ne.2 (fun e => ht (.inl e))
    have g1 : (table == 1) = false := beq_eq_false_iff_ne.2 (fun e => ht (.inr e))
    have g2 : (table != 0) = true := by rw [bne_iff_ne]; exact fun e => ht (.inl e)
    have g3 : (table != 1) = true := by rw [bne_iff_ne]; exact fun e => ht (.inr e)
    have g4 : ¬ table = 0 := fun e => ht (.inl e)
    have g5 : ¬ table = 1 := fun e => ht (.inr e)
    have hb : Hid (bucketK M table i = []) := by show _ = _; unfold bucketK; rw [if_neg (fun e => ht e.1)]
    clear h ht
    go_enter Try.func30, Try.ntmps30
    go_wp2
    go_ret
    exact HN.out hb.out
  case pos =>
    have g1 : (table == 1) = decide (table = 1) := by rw [Bool.eq_iff_iff]; simp
    have hpick : (if table = 0 then false else decide (table ≠ 1)) = false := by rcases ht with rfl | rfl <;> rfl
    obtain ⟨tb, htb⟩ : ∃ tb, tb = if table = 1 then M.tyoung else M.told := ⟨_, rfl⟩
    obtain ⟨cs, hcs⟩ : ∃ cs, cs = tabOf M table := ⟨_, rfl⟩
    have htab : TabN w tb cs := by
      rw [htb, hcs]; unfold tabOf
      split
      · exact tab_young h
      · exact tab_old h
    have hlen : cs.length ≤ 35184372088832 := by
      rw [hcs]; unfold tabOf
      split
      · exact h.lyoung
      · exact h.lold
    have hsz : ∀ c ∈ cs, c.length ≤ M.n ∧ ∀ e ∈ c, e.val.length = 1 := by
      intro c hc
      have hsub : ∀ e ∈ c, e ∈ entries M := by
        intro e he
        rw [hcs] at hc; unfold tabOf at hc
        split at hc
        · exact List.mem_append.2 (.inr (List.mem_flatten.2 ⟨c, hc, he⟩))
        · exact List.mem_append.2 (.inl (List.mem_flatten.2 ⟨c, hc, he⟩))
      refine ⟨?_, fun e he => (h.sz e (hsub e he)).1⟩
      rw [h.inv.count]
      unfold entries
      rw [List.length_append]
      rw [hcs] at hc; unfold tabOf at hc
      split at hc
      · have := (List.sublist_flatten_of_mem hc).length_le; omega
      · have := (List.sublist_flatten_of_mem hc).length_le; omega
    obtain ⟨f0, f1, f2, f3, f4, f5⟩ := blk_field h.rep.head
    have HSZ := Lib.hid hsz; clear hsz
    have HTAB := Lib.hid htab; clear htab
    have HTB := Lib.hid htb; clear htb
    have HCS := Lib.hid hcs; clear hcs
    have HT := Lib.hid ht
    have g4 : table = 0 ∨ table = 1 := ht
    clear f0 f3 f4 f5 h ht
    obtain ⟨a1, e1⟩ := len_tv w M.told M.old
    obtain ⟨a2, e2⟩ := len_tv w M.tyoung M.young
    rw [e1] at f1
    rw [e2] at f2
    have E1 := Lib.hid e1; clear e1
    have E2 := Lib.hid e2; clear e2
    have hsel : (table = 0 ∧ Hid (cs = M.old ∧ tb = M.told)) ∨ (table = 1 ∧ Hid (cs = M.young ∧ tb = M.tyoung)) := by
      rcases g4 with rfl | rfl
      · exact .inl ⟨rfl, by rw [HCS.out, HTB.out]; exact ⟨rfl, rfl⟩⟩
      · exact .inr ⟨rfl, by rw [HCS.out, HTB.out]; exact ⟨rfl, rfl⟩⟩
    clear g4 hpick g1
    by_cases hin : 0 ≤ i ∧ i < cs.length
    case neg =>
      have hb : Hid (bucketK M table i = []) := by
        show _ = _
        unfold bucketK
        by_cases h0 : 0 ≤ i
        · rw [← HCS.out, List.getElem?_eq_none (by omega)]; simp
        · rw [if_neg (fun e => h0 e.2)]
      have hor : i < 0 ∨ (0 ≤ i ∧ (cs.length : Int) ≤ i) := by omega
      clear hin
      rcases hsel with ⟨rfl, HS⟩ | ⟨rfl, HS⟩
      all_goals
        have hl := congrArg List.length HS.out.1
        rcases hor with h1 | ⟨h1, h2⟩
        all_goals
          try rw [hl] at h2
          clear hl
          go_enter Try.func30, Try.ntmps30
          go_wp2
          go_ret
          exact HN.out hb.out
    case pos =>
      obtain ⟨h0, h1⟩ := hin
      obtain ⟨k, rfl⟩ := Int.eq_ofNat_of_zero_le h0
      have hk : k < cs.length := by omega
      have hne : cs ≠ [] := by intro e; rw [e] at hk; simp at hk
      obtain ⟨c, hc⟩ : ∃ c, cs[k]? = some c := ⟨_, List.getElem?_eq_getElem hk⟩
      have htab2 := (HTAB.out hne).1
      have hrc := row_cell htab2.row k hk
      have hcc : cs[k] = c := by rw [List.getElem?_eq_getElem hk] at hc; exact Option.some.inj hc
      rw [hcc] at hrc
      have hch := chain_of htab2.chains hc (HSZ.out c (List.mem_of_getElem? hc)).2
      have hcl := (HSZ.out c (List.mem_of_getElem? hc)).1
      have hb : Hid (bucketK M table k = c.map E.key) := by
        show _ = _
        unfold bucketK
        rw [if_pos ⟨HT.out, h0⟩, ← HCS.out, Int.toNat_natCast, hc]; rfl
      have HCH := Lib.hid hch; clear hch
      have HC := Lib.hid hc; clear hc hcc
      have e1 := E1.out
      have e2 := E2.out
      clear htab2
      rcases hsel with ⟨rfl, HS⟩ | ⟨rfl, HS⟩
      all_goals
        obtain ⟨rfl, rfl⟩ := HS.out
        first
          | (rw [tv_of hne] at e1; cases e1)
          | (rw [tv_of hne] at e2; cases e2)
        clear HS hne
        go_enter Try.func30, Try.ntmps30
        go_wp2
        go_loopg [8, 9] c.length (fun n l e wr => ∃ pre post : List E, Hid (c = pre ++ post) ∧ Hid (post.length = n) ∧ e = hp post ∧ Hid (wr.ownsRow w.heap.size 9 1 l pre.length (pre.map fun x => .string x.key)) ∧ Hid (Below w.heap.size w wr))
        case atStart => exact ⟨[], c, rfl, rfl, rfl, World.ownsRow_nil _ _ _ _, Below.refl _ _⟩
        case round =>
          obtain ⟨pre, post, H1, H2, he, H3, H4⟩ := hrel
          cases post with
          | nil =>
            have he' : u9 = .pointer none := he
            subst he'
            clear he
            go_wp2
            go_ret
            refine ⟨_, rfl, ?_, H4.out⟩
            rw [hb.out, H1.out, List.append_nil, List.map_map, List.length_map]
            exact H3.out
          | cons x post =>
            have he' : u9 = .pointer (some ⟨x.b, 0, none⟩) := he
            subst he'
            clear he
            obtain ⟨g1, g2⟩ := HCH.out.below H4.out pre x post H1.out
            have hpl : pre.length + 1 ≤ M.n := by
              have := congrArg List.length H1.out
              simp at this
              omega
            obtain ⟨pr, hpr⟩ := nx_ptr post
            rw [hpr] at g2
            have HPR := Lib.hid hpr; clear hpr
            go_wp2_with (at_builtin; refine wpl_append rfl (.tmp 48) (.tmp 53) 47 rfl w.heap.size 9 i0 (.string ⟨#[]⟩) 1 16 Try.underlying47 hi hz0 hz1 hz2 rfl (by decide) _ pre.length _ rfl (H3.out.alloc _) _ 1 [.string x.key] rfl (RdC.of_owns (World.ownsRow_lit (e := 9) wr #[.string x.key] 1 (Nat.le_refl _) (by decide) rfl)) (by simp [Value.oneCell']) (by unfold maxLen; omega) (by omega) (by have := H4.out.size; simp; omega) ?_; intro v' w1 hown hgrow; have hbel1 : Below w.heap.size w w1 := (H4.out.alloc H4.out.size _).grown hgrow (by have := H4.out.size; simp; omega) (fun k e => (H3.out.lt k e).1); obtain ⟨g1, g2⟩ := HCH.out.below hbel1 pre x post H1.out; rw [HPR.out] at g2; have HO := Lib.hid hown; have HB := Lib.hid hbel1; clear hown hgrow hbel1)
            go_wp2
            go_roundg post.length
            case measure => have := H2.out; simp at this; omega
            case rel =>
              refine ⟨pre ++ [x], post, ?_, rfl, HPR.out.symm, ?_, HB⟩
              · show _ = _
                rw [H1.out]; simp
              · have := HO.out
                show World.ownsRow _ _ _ _ _ _ _
                simpa using this
end Go.Proofs.Ytkecipdonamjaaa.Di
