/- The walk of HubTells: who is told what, in which order. No condition but sizes. -/
import Derived.Test.YtleoeccjnchclaaDoorHubDuo
import Derived.Test.YtleoeccjnchclaaDoorWakes25
import Derived.Test.YtleoeccjnchclaaDoorDoes25
import Derived.Test.YtleoeccjnchclaaDoorApp25
namespace Go.Proofs.YtleoeccjnchclaaDoor
open Go.RowKit
/-- a hub, and the list of the sessions that were named -/
structure Lst (w0 w : World) (N h : Nat) (F : Nat → Prop) (fc fp : Int → List ByteArray) (Z : List Int) (sv : Value) : Prop where
  a : HubT w w0.heap.size F N h fc fp
  sm : Sm (fc, fp)
  nm : Named (fc, fp) Z
  up : Z.Pairwise (· < ·)
  ok : ∀ x ∈ Z, kI.ok x
  row : w.ownsRow w0.heap.size 3 1 sv Z.length (Z.map (.int .i64))
  ap : ∀ g, sv.ownBlock = some g → ¬ F g
  len : Z.length ≤ N
  nil : Z = [] → sv = .slice none 0 0
  fr : Fr (fun k => w0.heap.size ≤ k) w0 w
theorem Lst.below {w0 w : World} {N h : Nat} {F : Nat → Prop} {fc fp : Int → List ByteArray} {Z : List Int} {sv : Value} (H : Lst w0 w N h F fc fp Z sv) : Below w0.heap.size w0 w := H.fr.below (Nat.le_refl _) (fun _ h => h)
theorem Lst.quiet {w0 w w' : World} {N h : Nat} {F : Nat → Prop} {fc fp : Int → List ByteArray} {Z : List Int} {sv : Value} (H : Lst w0 w N h F fc fp Z sv) (hf : Fr (fun _ => False) w w') : Lst w0 w' N h F fc fp Z sv :=
  ⟨H.a.quiet hf, H.sm, H.nm, H.up, H.ok, ow_frT H.row hf (fun _ _ h => h), H.ap, H.len, H.nil, H.fr.wide hf (fun _ h => h.elim)⟩
theorem Lst.ins {w0 w5 w6 we : World} {N h : Nat} {F T : Nat → Prop} {fc fp fc' fp' : Int → List ByteArray} {Z Z' : List Int} {sv sv' : Value} (D : Lst w0 w5 N h F fc fp Z sv) (hf6 : Fr F w5 w6) (hT : HubT w6 w0.heap.size (Grew F w5 w6) (N + 1) h fc' fp') (hsm : Sm (fc', fp')) (hnm : Named (fc', fp') Z') (hup : Z'.Pairwise (· < ·)) (hok : ∀ x ∈ Z', kI.ok x)
    (hf : Fr T w6 we) (hT2 : ∀ i, T i → sv.ownBlock = some i ∨ w6.heap.size ≤ i) (hrow : we.ownsRow w0.heap.size 3 1 sv' Z'.length (Z'.map (.int .i64))) (hlie : ∀ g, sv'.ownBlock = some g → sv.ownBlock = some g ∨ w6.heap.size ≤ g) (hlen : Z'.length ≤ N + 1) (hnil : Z' = [] → sv' = .slice none 0 0) :
    Lst w0 we (N + 1) h (Grew F w5 w6) fc' fp' Z' sv' := by
  have hap : ∀ g, sv.ownBlock = some g ∨ w6.heap.size ≤ g → ¬ Grew F w5 w6 g := fun g hg hF => by
    have hlt := (hT.lt g hF).2
    rcases hg with hg | hg
    · rcases hF with hF | hF
      · exact D.ap g hg hF
      · have := (ow_lt D.row g hg).2
        have := hF.1
        omega
    · omega
  refine ⟨hT.other hf (fun k hk hTk => hap k (hT2 k hTk) hk), hsm, hnm, hup, hok, hrow, fun g hg => hap g (hlie g hg), hlen, hnil, ?_⟩
  have h1 : Fr (fun k => w0.heap.size ≤ k) w0 w6 := D.fr.wide hf6 (fun i hi => .inl (D.a.lt i hi).1)
  refine h1.wide hf (fun i hi => ?_)
  rcases hT2 i hi with h2 | h2
  · exact .inl (ow_lt D.row i h2).1
  · exact .inr (Nat.le_trans h1.size h2)
theorem not_le25 {x la : ByteArray} (h : ltS la x) : (Op.bytesLess x.toList la.toList || x.toList == la.toList) = false := by
  have h : la.toList < x.toList := h
  rw [bytesLess_eq, Bool.or_eq_false_iff]
  refine ⟨decide_eq_false (fun h2 => List.lt_irrefl _ (List.lt_trans h h2)), ?_⟩
  rw [beq_eq_false_iff_ne]
  intro e
  rw [e] at h
  exact List.lt_irrefl _ h
theorem ints_one (l : List Int) (k : Nat) : ∀ u ∈ (l.map (Value.int .i64)).drop k, u.oneCell' = true := fun u hu => by
  obtain ⟨x, _, rfl⟩ := List.mem_map.1 (List.mem_of_mem_drop hu)
  rfl
theorem ints_one' (s : Int) (l : List Int) (k : Nat) : ∀ u ∈ [Value.int .i64 s] ++ (l.map (Value.int .i64)).drop k, u.oneCell' = true := fun u hu => by
  rcases List.mem_append.1 hu with hu | hu
  · rw [List.mem_singleton.1 hu]; rfl
  · exact ints_one l k u hu
theorem ins_vals (Z : List Int) (s : Int) (a : Nat) : (Z.map (Value.int .i64)).take a ++ ([Value.int .i64 s] ++ (Z.map (Value.int .i64)).drop a) = (Z.take a ++ s :: Z.drop a).map (.int .i64) := by simp [List.map_take, List.map_drop]
theorem ins_len (Z : List Int) (s : Int) (a : Nat) (h : a ≤ Z.length) : (Z.take a ++ s :: Z.drop a).length = Z.length + 1 := by
  rw [List.length_append, List.length_cons, List.length_take, List.length_drop]; omega
theorem own_form {w : World} {B : Nat} {e : TypeId} {a : Option Addr} {n cap : Nat} {xs : List Value} (h : w.ownsRow B e 1 (.slice a n cap) n xs) (hn : n ≠ 0) : (∃ g, a = some ⟨g, 0, none⟩) ∧ n ≤ cap := by
  obtain ⟨h1, ⟨h2, h3⟩ | ⟨g, c, cur, he, hb, hg, hnc, hcm, hcs, htake⟩⟩ := h
  · exact absurd h3 hn
  · cases he; exact ⟨⟨g, rfl⟩, hnc⟩
def LstE (w0 w : World) (N h : Nat) (sv : Value) : Prop := ∃ (F : Nat → Prop) (fc fp : Int → List ByteArray) (Z : List Int), Lst w0 w N h F fc fp Z sv
set_option maxRecDepth 100000 in
set_option maxHeartbeats 4000000 in
theorem hubTells_walk (w : World) (v : Value) (l : List SoB) (hr : RdC w 6 v l.length (l.flatMap sob)) (hby : l.length * 64 ≤ reachBytes) (ch text : ByteArray) (hch : ch.size ≤ 140737488351232) (htx : text.size ≤ 140737488351232) :
    Calls Tryd.prog 4 #[v, .string ch, .string text] w fun e w' => e = .returned (.bool true) ∧ Below w.heap.size w w' := by
  have hl : l.length ≤ 2199023255488 := by unfold reachBytes at hby; omega
  have HW := Lib.hid (wakes25_any w)
  have HR := Lib.hid hr
  obtain ⟨-, va, vc, rfl, -⟩ := hr
  go_enter Tryd.func4, Tryd.ntmps4
  go_wp2_with fail
  refine HW.out.mono ?_
  rintro e w1 ⟨rfl, hf1⟩
  have HF1 := Lib.hid hf1
  clear hf1
  go_wp2_with fail
  refine (hubNew_any w1).mono ?_
  rintro e w2 ⟨h, X, rfl, H2, hb2⟩
  have HT : Hid (LstE w w2 0 h (.slice none 0 0)) := by
    have z1 := HF1.out.size
    exact ⟨_, _, _, [], hub_new H2 z1 (Fr.refl _ _), sm_none, ⟨fun s h => absurd rfl h, fun s h => absurd rfl h⟩, .nil, (fun x hx => by cases hx), World.ownsRow_nil _ _ _ _, (fun g hg => by cases hg), Nat.le_refl _, fun _ => rfl, (HF1.out.mono fun _ h _ => h.elim).wide (Fr.of_below hb2) (fun i hi => .inr (by omega))⟩
  clear H2 hb2 HF1
  go_wp2_with fail
  go_loopw [8, 29] (fun sv i wr => ∃ k : Nat, i = .int .i64 k ∧ k ≤ l.length ∧ Hid (LstE w wr k h sv)) (fun _ i _ => l.length - (intOf i).toNat)
  case atStart => exact ⟨0, rfl, by omega, HT⟩
  case round =>
    obtain ⟨k, rfl, hk, HK⟩ := hrel
    obtain ⟨wo, rfl⟩ : ∃ wo, wo = wr := ⟨_, rfl⟩
    obtain ⟨sv, rfl⟩ : ∃ x, x = u8 := ⟨_, rfl⟩
    by_cases hlt : k < l.length
    · obtain ⟨F, fc, fp, Z, D⟩ := HK.out
      obtain ⟨gb, off, rfl, x0, x1, x2, x3, x4, x5⟩ := so_at (HR.out.below D.below) k hlt
      obtain ⟨⟨⟨who, do_, ses, key, text2, big⟩, p1, p2, p3, p4⟩, ho⟩ : ∃ o, l[k] = o := ⟨_, rfl⟩
      rw [ho] at x0 x1 x2 x3 x4 x5
      dsimp only at p1 p2 x0 x1 x2 x3 x4 x5
      obtain ⟨w5, hw5⟩ : ∃ x, wo.alloc (.cells #[.int .i64 who, .int .i64 do_, .int .i64 ses, .string key, .string text2, .int .i64 big] 27) = x := ⟨_, rfl⟩
      have hq5 : Fr (fun _ => False) wo w5 := by rw [← hw5]; exact Fr.alloc _ _ _
      have D5 := D.quiet hq5
      have hblk : w5.heap[wo.heap.size]? = some (.cells #[.int .i64 who, .int .i64 do_, .int .i64 ses, .string key, .string text2, .int .i64 big] 27 (0, 0)) := by rw [← hw5]; exact alloc_at wo _
      have hmx : ∀ n : Nat, n ≤ 1024 → n ≤ maxLen := fun n hn => by unfold maxLen; omega
      have HD := Lib.hid (does25_any D5.a D5.fr.size (by omega) who do_ ses key text2 big p1 p2 (fun x hx => hmx _ (D5.sm.1 ses x hx)))
      have HDU := Lib.hid D5
      have HBLK := Lib.hid hblk
      have hnF : ¬ F wo.heap.size := fun hF => by have := (D.a.lt _ hF).2; omega
      have HNF := Lib.hid hnF
      have HP1 := Lib.hid p1
      have HW5 := Lib.hid hw5
      have HOP := Lib.hid (ow_lt D.row)
      obtain ⟨sa, sc, rfl, -⟩ := ow_slot D.row
      have hzl : Z.length ≤ 2199023255488 := by have := D.len; omega
      have b0 : (0 : Int) ≤ (k : Int) := by omega
      have b1 : (k : Int) < (l.length : Int) := by omega
      unfold DoesH at HD
      clear ho p3 p4 D D5 hq5 hblk p1 p2 hmx hw5 hnF
      go_wp2_with fail
      rw [HW5.out]
      refine HD.out.mono ?_
      rintro e w6 ⟨⟨u, rfl⟩, hf6, hT6⟩
      have hb6 := (hf6.block wo.heap.size (Array.getElem?_eq_some_iff.1 HBLK.out).1 HNF.out).trans HBLK.out
      have y2 : w6.cell? ⟨wo.heap.size, 2, none⟩ = some (.int .i64 ses) := cell_of_blk hb6 2
      have HT6 := Lib.hid hT6
      have HF6 := Lib.hid hf6
      have HRW := Lib.hid (ow_frT HDU.out.row hf6 HDU.out.ap)
      clear hT6 hf6 hb6
      go_upto_block 2 with (fail)
      go_cut [11] from 36 to 50 (fun t11 wc => ∃ a m : Nat, t11 = .int .i64 a ∧ a ≤ Z.length ∧ Hid (wc = w6.drewN m) ∧ Hid (∀ j (hj : j < Z.length), j < a → Z[j] < ses) ∧ Hid (∀ (hj : a < Z.length), ses ≤ Z[a]))
      case first =>
        go_wp2_with fail
        go_loopw [11] (fun t11 wr => ∃ a m : Nat, t11 = .int .i64 a ∧ a ≤ Z.length ∧ Hid (wr = w6.drewN m) ∧ Hid (∀ j (hj : j < Z.length), j < a → Z[j] < ses)) (fun i _ => Z.length - (intOf i).toNat)
        case atStart => exact ⟨0, 0, rfl, by omega, (show w6 = w6.drewN 0 from rfl), fun j _ hj => absurd hj (by omega)⟩
        case round =>
          obtain ⟨a, m, rfl, ha, HWA, HLO⟩ := hrel
          obtain ⟨wp, rfl⟩ : ∃ x, x = wr := ⟨_, rfl⟩
          by_cases hlta : a < Z.length
          · obtain ⟨g9, off9, rfl, hc9⟩ := (RdC.of_owns HRW.out).at (by rw [List.length_map]; omega)
            obtain ⟨z, hz⟩ : ∃ z, Z[a] = z := ⟨_, rfl⟩
            have cz : wp.cell? ⟨g9, off9 + a, none⟩ = some (.int .i64 z) := by rw [HWA.out]; exact hc9 a _ (by rw [List.getElem?_map, List.getElem?_eq_getElem hlta, hz]; rfl)
            have cy : wp.cell? ⟨wo.heap.size, 2, none⟩ = some (.int .i64 ses) := by rw [HWA.out]; exact y2
            have c0 : (0 : Int) ≤ (a : Int) := by omega
            have c1 : (a : Int) < (Z.length : Int) := by omega
            have HZA := Lib.hid hz
            clear hc9 hz
            by_cases hzs : z < ses
            · go_upto_region 10 with (fail)
              go_quiet (fail)
              go_wp2
              go_roundw
              case rel => exact ⟨a + 1, m + nq, by go_num, by omega, (show wp.drewN nq = _ by rw [HWA.out]; exact drewN_drewN _ _ _), fun j hj hja => by
                by_cases e : j = a
                · subst e; rw [HZA.out]; exact hzs
                · exact HLO.out j hj (by omega)⟩
              case measure => simp [intOf]; omega
            · go_upto_region 10 with (fail)
              go_quiet (fail)
              go_wp2
              go_meet
              case rel => exact ⟨a, m + nq, rfl, by omega, (show wp.drewN nq = _ by rw [HWA.out]; exact drewN_drewN _ _ _), HLO, fun _ => by rw [HZA.out]; omega⟩
          · obtain rfl : a = Z.length := by omega
            go_upto_region 10 with (fail)
            go_quiet (fail)
            go_wp2
            go_meet
            case rel => exact ⟨Z.length, m + nq, rfl, by omega, (show wp.drewN nq = _ by rw [HWA.out]; exact drewN_drewN _ _ _), HLO, fun h => absurd h (by omega)⟩
      case rest =>
      obtain ⟨a, m, rfl, ha, HWA, HLO, HHI⟩ := hcut
      obtain ⟨wp, rfl⟩ : ∃ x, x = wc := ⟨_, rfl⟩
      go_upto_region 12 with (fail)
      go_cut [63] from 51 to 63 (fun t63 wd => ∃ (b : Bool) (m : Nat), t63 = .bool b ∧ Hid (wd = w6.drewN m) ∧ Hid ((b = true ∧ ∀ (hj : a < Z.length), ses < Z[a]) ∨ (b = false ∧ ses ∈ Z)))
      case first =>
        by_cases hlta : a < Z.length
        · obtain ⟨g9, off9, rfl, hc9⟩ := (RdC.of_owns HRW.out).at (by rw [List.length_map]; omega)
          obtain ⟨z, hz⟩ : ∃ z, Z[a] = z := ⟨_, rfl⟩
          have cz : wp.cell? ⟨g9, off9 + a, none⟩ = some (.int .i64 z) := by rw [HWA.out]; exact hc9 a _ (by rw [List.getElem?_map, List.getElem?_eq_getElem hlta, hz]; rfl)
          have cy : wp.cell? ⟨wo.heap.size, 2, none⟩ = some (.int .i64 ses) := by rw [HWA.out]; exact y2
          have c0 : (0 : Int) ≤ (a : Int) := by omega
          have c1 : (a : Int) < (Z.length : Int) := by omega
          have c2 : ((a : Int) == (Z.length : Int)) = false := by rw [beq_eq_false_iff_ne]; omega
          have HZA := Lib.hid hz
          have hge := HHI.out hlta
          have HZM : Hid (z ∈ Z) := by show z ∈ Z; rw [← hz]; exact List.getElem_mem hlta
          rw [hz] at hge
          clear hc9 hz
          by_cases hzs : z = ses
          · have c3 : (z != ses) = false := by rw [bne_eq_false_iff_eq]; exact hzs
            have HM : Hid (ses ∈ Z) := by rw [← hzs]; exact HZM.out
            clear hzs hge
            go_quiet (fail)
            go_wp2
            go_meet
            case rel => exact ⟨false, m + nq, rfl, (show wp.drewN nq = _ by rw [HWA.out]; exact drewN_drewN _ _ _), .inr ⟨rfl, HM.out⟩⟩
          · have c3 : (z != ses) = true := by rw [bne_iff_ne]; exact hzs
            have HM : Hid (ses < z) := (show ses < z by omega)
            clear hzs hge
            go_quiet (fail)
            go_wp2
            go_meet
            case rel => exact ⟨true, m + nq, rfl, (show wp.drewN nq = _ by rw [HWA.out]; exact drewN_drewN _ _ _), .inl ⟨rfl, fun _ => by rw [HZA.out]; exact HM.out⟩⟩
        · have c2 : ((a : Int) == (Z.length : Int)) = true := by rw [beq_iff_eq]; omega
          go_quiet (fail)
          go_wp2
          go_meet
          case rel => exact ⟨true, m + nq, rfl, (show wp.drewN nq = _ by rw [HWA.out]; exact drewN_drewN _ _ _), .inl ⟨rfl, fun h => absurd h hlta⟩⟩
      case rest =>
      obtain ⟨b, m2, rfl, HWD, HBB⟩ := hcut
      obtain ⟨wd, rfl⟩ : ∃ x, x = wc := ⟨_, rfl⟩
      cases b with
      | false =>
        have HL2 : Hid (LstE w wd (k + 1) h (.slice sa Z.length sc)) := by
          have hin : ses ∈ Z := HBB.out.elim (fun q => by cases q.1) (fun q => q.2)
          have hqd : Fr (fun _ => False) w6 wd := by rw [HWD.out]; exact Fr.drewN _ w6 m2
          exact ⟨_, _, _, Z, HDU.out.ins (T := fun _ => False) HF6.out HT6.out (does_small _ _ _ _ HDU.out.sm) (does_named do_ ses key HDU.out.nm hin (fun _ h => h)) HDU.out.up HDU.out.ok hqd (fun _ h => h.elim) (ow_frT HRW.out hqd (fun _ _ h => h)) (fun g hg => .inl hg) (by have := HDU.out.len; omega) HDU.out.nil⟩
        go_wp2
        go_roundw
        case rel => exact ⟨k + 1, by go_num, by omega, HL2⟩
        case measure => simp [intOf]; omega
      | true =>
        go_upto_region 13 with (fail)
        have HUP : Hid (∀ (hj : a < Z.length), ses < Z[a]) := HBB.out.elim (fun q => q.2) (fun q => by cases q.1)
        have cy : wd.cell? ⟨wo.heap.size, 2, none⟩ = some (.int .i64 ses) := by rw [HWD.out]; exact y2
        obtain ⟨i0, hi, hz0, hz1, hz2⟩ := info_parts info_int25
        have HI := Lib.hid hi
        have HZ0 := Lib.hid hz0
        have HZ1 := Lib.hid hz1
        have HZ2 := Lib.hid hz2
        have hqd : Fr (fun _ => False) w6 wd := by rw [HWD.out]; exact Fr.drewN _ w6 m2
        have hqe : Fr (fun _ => False) w6 (wd.alloc (.cells #[.int .i64 ses] 3)).drew := (hqd.thenAlloc _).thenDrew
        have HL1 : Hid ((wd.alloc (.cells #[.int .i64 ses] 3)).drew.ownsRow wd.heap.size 3 1 (.slice (some ⟨wd.heap.size, 0, none⟩) 1 1) 1 [.int .i64 ses]) := ow_frT (World.ownsRow_lit (base := wd.heap.size) (e := 3) (size := 1) wd #[.int .i64 ses] 1 (Nat.le_refl _) (by decide) rfl) (Fr.drew (fun _ => False) _) (fun _ _ h => h)
        have hrow := ow_frT HRW.out hqe (fun _ _ h => h)
        have hwb : w.heap.size ≤ w6.heap.size := Nat.le_trans HDU.out.fr.size HF6.out.size
        have HBE : Hid (w6.heap.size ≤ (wd.alloc (.cells #[.int .i64 ses] 3)).drew.heap.size) := hqe.size
        have HBD : Hid (w.heap.size ≤ (wd.alloc (.cells #[.int .i64 ses] 3)).drew.heap.size) := Nat.le_trans hwb hqe.size
        have HBF : Hid (wd.heap.size ≤ (wd.alloc (.cells #[.int .i64 ses] 3)).drew.heap.size) := ((Fr.alloc (fun _ => False) wd (.cells #[.int .i64 ses] 3)).thenDrew).size
        have HAPS : Hid (∀ g, (Value.slice sa a sc).ownBlock = some g → ¬ ((Value.slice (some ⟨wd.heap.size, 0, none⟩) 1 1).ownBlock = some g)) := fun g h1 h2 => by
          have h3 : (Value.slice sa Z.length sc).ownBlock = some g := by cases sa with | none => exact h1 | some ad => exact h1
          have h4 := (ow_lt HRW.out g h3).2
          have h5 := hqd.size
          have h6 : wd.heap.size = g := Option.some.inj h2
          omega
        have HS0 : Hid ((wd.alloc (.cells #[.int .i64 ses] 3)).drew.ownsRow w.heap.size 3 1 (.slice sa a sc) a ((Z.map (Value.int .i64)).take a)) := own_take hrow a ha
        have haz : a ≤ Z.length := ha
        by_cases hz : Z = []
        · subst hz
          have hn : Value.slice sa 0 sc = .slice none 0 0 := HDU.out.nil rfl
          injection hn with hn1 _ hn3
          subst hn1 hn3
          obtain rfl : a = 0 := by simpa using ha
          have HRD : Hid (RdC (wd.alloc (.cells #[.int .i64 ses] 3)).drew 1 (.slice none 0 0) 0 ((([] : List Int).map (Value.int .i64)).drop 0)) := RdC.nil _ _
          clear hi hz0 hz1 hz2 hqd hqe hrow hwb
          go_region_law (first
            | (refine step_append2 (by rfl) (.tmp 69) (.tmp 72) 43 (by rfl) wd.heap.size 3 i0 (.int .i64 0) 1 8 Tryd.underlying43 HI.out HZ0.out HZ1.out HZ2.out rfl (by decide) (.slice (some ⟨wd.heap.size, 0, none⟩) 1 1) 1 [.int .i64 ses] (by rfl) HL1.out (.slice none 0 0) (0) ((([] : List Int).map (Value.int .i64)).drop 0) (by rfl) HRD.out (ints_one [] 0) (by unfold maxLen; omega) (by omega) HBF.out ?_; intro v1 wf hown1 hgrow1 hlie1; obtain ⟨va1, vc1, rfl⟩ := ow_sliceN hown1; have HO1 := Lib.hid hown1; have HG1 := Lib.hid hgrow1; have HR1 := Lib.hid (RdC.of_owns hown1); have HSV := Lib.hid (ow_frT HS0.out (Fr.of_grownBy hgrow1) HAPS.out); have HBW : Hid (w.heap.size ≤ wf.heap.size) := Nat.le_trans HBD.out (Fr.of_grownBy hgrow1).size; have HZF : Hid (w6.heap.size ≤ wf.heap.size) := Nat.le_trans HBE.out (Fr.of_grownBy hgrow1).size; clear hown1 hgrow1 hlie1)
            | (refine step_append2 (by rfl) (.tmp 66) (.tmp 73) 43 (by rfl) w.heap.size 3 i0 (.int .i64 0) 1 8 Tryd.underlying43 HI.out HZ0.out HZ1.out HZ2.out rfl (by decide) (.slice none 0 0) (0) ((([] : List Int).map (Value.int .i64)).take 0) (by rfl) HSV.out (.slice va1 (1 + (0)) vc1) (1 + (0)) ([Value.int .i64 ses] ++ (([] : List Int).map (Value.int .i64)).drop 0) (by rfl) HR1.out (ints_one' ses [] 0) (by unfold maxLen; omega) (by omega) HBW.out ?_; intro v2 we hown2 hgrow2 hlie2; obtain ⟨va2, vc2, rfl⟩ := ow_sliceN hown2; have HO2 := Lib.hid hown2; have HG2 := Lib.hid hgrow2; have HLI2 := Lib.hid hlie2; clear hown2 hgrow2 hlie2))
          all_goals
            have HEND : Hid (LstE w we (k + 1) h (.slice va2 (0 + (1 + 0)) vc2)) := by
              have zd : w6.heap.size ≤ wd.heap.size := by rw [HWD.out]; exact Nat.le_refl _
              refine ⟨_, _, _, ([] : List Int).take 0 ++ ses :: ([] : List Int).drop 0, HDU.out.ins (T := fun i => (Value.slice none 0 0).ownBlock = some i ∨ w6.heap.size ≤ i) HF6.out HT6.out (does_small _ _ _ _ HDU.out.sm) (does_named do_ ses key HDU.out.nm ((ins_mem _ _ _ _).2 (.inl rfl)) (fun x hx => (ins_mem _ _ _ _).2 (.inr hx))) (ins_rises HDU.out.up ses 0 HLO.out HUP.out) (fun x hx => ((ins_mem _ _ _ _).1 hx).elim (fun e => by rw [e]; exact HP1.out) (HDU.out.ok x)) ?_ (fun i hi => hi) ?_ ?_ (by rw [ins_len _ _ _ ha]; have := HDU.out.len; omega) (fun e => by have := congrArg List.length e; rw [ins_len _ _ _ ha] at this; cases this)⟩
              · have q0 : Fr (fun i => (Value.slice none 0 0).ownBlock = some i ∨ w6.heap.size ≤ i) w6 wd := by rw [HWD.out]; exact Fr.drewN _ w6 m2
                have q1 : Fr (fun i => (Value.slice none 0 0).ownBlock = some i ∨ w6.heap.size ≤ i) w6 (wd.alloc (.cells #[.int .i64 ses] 3)).drew := (q0.thenAlloc _).thenDrew
                exact (q1.wide (Fr.of_grownBy HG1.out) (fun i hi => .inr (by have h9 : wd.heap.size = i := (Option.some.inj hi); omega))).wide (Fr.of_grownBy HG2.out) (fun i hi => .inl (.inl hi))
              · rw [ins_len _ _ _ ha, ← ins_vals]
                have h9 := HO2.out
                exact h9
              · intro g hg
                rcases HLI2.out g hg with h9 | h9
                · exact .inl h9
                · exact .inr (by have := HZF.out; omega)
            go_wp2
            go_roundw
            case rel => exact ⟨k + 1, by go_num, by omega, HEND⟩
            case measure => simp [intOf]; omega
        · obtain ⟨⟨g9, hsa⟩, hzc⟩ := own_form hrow (fun e => hz (List.length_eq_zero_iff.1 e))
          subst hsa
          have c0 : (0 : Int) ≤ (a : Int) := by omega
          have c1 : (a : Int) ≤ (Z.length : Int) := by omega
          have hac : a ≤ sc := by omega
          obtain ⟨ad, had⟩ : ∃ ad : Option Addr, (if sc = a then some ⟨g9, 0, none⟩ else some ⟨g9, a, none⟩ : Option Addr) = ad := ⟨_, rfl⟩
          have HRD : Hid (RdC (wd.alloc (.cells #[.int .i64 ses] 3)).drew 1 (.slice ad (Z.length - a) (sc - a)) (Z.length - a) ((Z.map (Value.int .i64)).drop a)) := by
            refine rd_drop (RdC.of_owns hrow) a ha ad ?_
            by_cases e : sc = a
            · rw [if_pos e] at had; exact .inr ⟨by omega, by rw [← had]; rfl⟩
            · rw [if_neg e] at had; exact .inl (by rw [← had, Nat.zero_add])
          clear hi hz0 hz1 hz2 hqd hqe hrow hwb hz
          go_region_law (first
            | (refine step_append2 (by rfl) (.tmp 69) (.tmp 72) 43 (by rfl) wd.heap.size 3 i0 (.int .i64 0) 1 8 Tryd.underlying43 HI.out HZ0.out HZ1.out HZ2.out rfl (by decide) (.slice (some ⟨wd.heap.size, 0, none⟩) 1 1) 1 [.int .i64 ses] (by rfl) HL1.out (.slice ad (Z.length - a) (sc - a)) (Z.length - a) ((Z.map (Value.int .i64)).drop a) (by rfl) HRD.out (ints_one Z a) (by unfold maxLen; omega) (by omega) HBF.out ?_; intro v1 wf hown1 hgrow1 hlie1; obtain ⟨va1, vc1, rfl⟩ := ow_sliceN hown1; have HO1 := Lib.hid hown1; have HG1 := Lib.hid hgrow1; have HR1 := Lib.hid (RdC.of_owns hown1); have HSV := Lib.hid (ow_frT HS0.out (Fr.of_grownBy hgrow1) HAPS.out); have HBW : Hid (w.heap.size ≤ wf.heap.size) := Nat.le_trans HBD.out (Fr.of_grownBy hgrow1).size; have HZF : Hid (w6.heap.size ≤ wf.heap.size) := Nat.le_trans HBE.out (Fr.of_grownBy hgrow1).size; clear hown1 hgrow1 hlie1)
            | (refine step_append2 (by rfl) (.tmp 66) (.tmp 73) 43 (by rfl) w.heap.size 3 i0 (.int .i64 0) 1 8 Tryd.underlying43 HI.out HZ0.out HZ1.out HZ2.out rfl (by decide) (.slice (some ⟨g9, 0, none⟩) a sc) (a) ((Z.map (Value.int .i64)).take a) (by rfl) HSV.out (.slice va1 (1 + (Z.length - a)) vc1) (1 + (Z.length - a)) ([Value.int .i64 ses] ++ (Z.map (Value.int .i64)).drop a) (by rfl) HR1.out (ints_one' ses Z a) (by unfold maxLen; omega) (by omega) HBW.out ?_; intro v2 we hown2 hgrow2 hlie2; obtain ⟨va2, vc2, rfl⟩ := ow_sliceN hown2; have HO2 := Lib.hid hown2; have HG2 := Lib.hid hgrow2; have HLI2 := Lib.hid hlie2; clear hown2 hgrow2 hlie2))
          all_goals
            have HEND : Hid (LstE w we (k + 1) h (.slice va2 (a + (1 + (Z.length - a))) vc2)) := by
              have zd : w6.heap.size ≤ wd.heap.size := by rw [HWD.out]; exact Nat.le_refl _
              refine ⟨_, _, _, Z.take a ++ ses :: Z.drop a, HDU.out.ins (T := fun i => (Value.slice (some ⟨g9, 0, none⟩) Z.length sc).ownBlock = some i ∨ w6.heap.size ≤ i) HF6.out HT6.out (does_small _ _ _ _ HDU.out.sm) (does_named do_ ses key HDU.out.nm ((ins_mem _ _ _ _).2 (.inl rfl)) (fun x hx => (ins_mem _ _ _ _).2 (.inr hx))) (ins_rises HDU.out.up ses a HLO.out HUP.out) (fun x hx => ((ins_mem _ _ _ _).1 hx).elim (fun e => by rw [e]; exact HP1.out) (HDU.out.ok x)) ?_ (fun i hi => hi) ?_ ?_ (by rw [ins_len _ _ _ ha]; have := HDU.out.len; omega) (fun e => by have := congrArg List.length e; rw [ins_len _ _ _ ha] at this; cases this)⟩
              · have q0 : Fr (fun i => (Value.slice (some ⟨g9, 0, none⟩) Z.length sc).ownBlock = some i ∨ w6.heap.size ≤ i) w6 wd := by rw [HWD.out]; exact Fr.drewN _ w6 m2
                have q1 : Fr (fun i => (Value.slice (some ⟨g9, 0, none⟩) Z.length sc).ownBlock = some i ∨ w6.heap.size ≤ i) w6 (wd.alloc (.cells #[.int .i64 ses] 3)).drew := (q0.thenAlloc _).thenDrew
                exact (q1.wide (Fr.of_grownBy HG1.out) (fun i hi => .inr (by have h9 : wd.heap.size = i := (Option.some.inj hi); omega))).wide (Fr.of_grownBy HG2.out) (fun i hi => .inl (.inl hi))
              · rw [ins_len _ _ _ ha, ← ins_vals]
                have h9 := HO2.out
                rw [show a + (1 + (Z.length - a)) = Z.length + 1 by omega] at h9 ⊢
                exact h9
              · intro g hg
                rcases HLI2.out g hg with h9 | h9
                · exact .inl h9
                · exact .inr (by have := HZF.out; omega)
            go_wp2
            go_roundw
            case rel => exact ⟨k + 1, by go_num, by omega, HEND⟩
            case measure => simp [intOf]; omega
    · obtain rfl : k = l.length := by omega
      obtain ⟨F, fc, fp, Z, D⟩ := HK.out
      obtain ⟨sa, sc, rfl, -⟩ := ow_slot D.row
      have hzl : Z.length ≤ 2199023255488 := by have := D.len; omega
      obtain ⟨A, hA⟩ : ∃ A, Z.flatMap (nameL fc ch text) = A := ⟨_, rfl⟩
      obtain ⟨O, hO⟩ : ∃ O, A ++ Z.flatMap (patL fp ch text) = O := ⟨_, rfl⟩
      have HTE := Lib.hid (tellT_any D.a hl D.sm ch text (by omega) D.up D.nm)
      rw [hA, hO] at HTE
      have HD := Lib.hid D
      have HA := Lib.hid hA
      have HO := Lib.hid hO
      clear D hA hO
      go_wp2_with fail
      refine HTE.out.mono ?_
      rintro e wt ⟨oa, oc, rfl, ho, hft, hol⟩
      have HDt := Lib.hid (HD.out.quiet hft)
      have HOT := Lib.hid ho
      clear ho hft HD
      go_wp2_with fail
      have HOL := Lib.hid hol
      have hob : O.length ≤ 2199023255488 := hol
      clear hol
      go_loopw [13, 14, 82] (fun kv cv i wr => ∃ j : Nat, i = .int .i64 j ∧ j ≤ Z.length ∧ ∃ n : Nat, kv = .int .i64 n ∧ cv = .int .i64 n ∧ n ≤ 2199023255488 ∧ Hid (n = ((Z.take j).flatMap (nameL fc ch text)).length) ∧ Hid (Fr (fun _ => False) wt wr)) (fun _ _ i _ => Z.length - (intOf i).toNat)
      case atStart => exact ⟨0, rfl, by omega, 0, rfl, rfl, by omega, (show 0 = _ by simp), Fr.refl _ _⟩
      case round =>
        obtain ⟨j, rfl, hj, n, rfl, rfl, hn, HN, HF⟩ := hrel
        obtain ⟨wp, rfl⟩ : ∃ x, x = wr := ⟨_, rfl⟩
        by_cases hltj : j < Z.length
        · have HDp := Lib.hid (HDt.out.quiet HF.out)
          obtain ⟨g9, off9, rfl, hc9⟩ := (RdC.of_owns HDp.out.row).at (by rw [List.length_map]; omega)
          obtain ⟨s, hz⟩ : ∃ z, Z[j] = z := ⟨_, rfl⟩
          have cz : wp.cell? ⟨g9, off9 + j, none⟩ = some (.int .i64 s) := hc9 j _ (by rw [List.getElem?_map, List.getElem?_eq_getElem hltj, hz]; rfl)
          have hs : kI.ok s := HDp.out.ok s (by rw [← hz]; exact List.getElem_mem hltj)
          obtain ⟨C, hC⟩ : ∃ C, sortS (fc s) = C := ⟨_, rfl⟩
          have hcl : C.length ≤ 1024 := by rw [← hC, sortS_len]; have := HDp.out.a.few s; omega
          have HCH := Lib.hid (chan_any HDp.out.a s hs hC)
          have HNX : Hid (∀ q (hq : q < C.length), C[q] = ch → O[n + ((C.take q).filter fun c => decide (c = ch)).length]? = some (msgL s ch text)) := fun q hq e => by
            have h9 := flat_next (A := []) (O := O) (R := Z.flatMap (patL fp ch text)) (Z := Z) (f := nameL fc ch text) (j := j) (hj := hltj) (C := C) (p := fun c => decide (c = ch)) (g := fun _ => msgL s ch text) hq (by rw [List.nil_append, HA.out, HO.out]) (by rw [hz, ← hC]; rfl) (by simpa using e)
            rw [List.length_nil, Nat.zero_add, ← HN.out] at h9
            exact h9
          have HNL : Hid (((Z.take (j + 1)).flatMap (nameL fc ch text)).length = n + (C.filter fun c => decide (c = ch)).length) := by
            show _ = _
            rw [List.take_succ_eq_append_getElem hltj, List.flatMap_append, List.length_append, ← HN.out, List.flatMap_singleton, hz]
            unfold nameL
            rw [List.length_map, hC]
          have c0 : (0 : Int) ≤ (j : Int) := by omega
          have c1 : (j : Int) < (Z.length : Int) := by omega
          clear hc9 hz hs hC
          go_wp2_with fail
          refine HCH.out.mono ?_
          rintro e wq ⟨ca, cc, rfl, hca, -, hfq⟩
          have HCA := Lib.hid hca
          have HFQ := Lib.hid (HF.out.wide hfq (fun _ h => h.elim))
          clear hca hfq
          go_wp2_with fail
          go_loopw [13, 14, 90] (fun kv cv i wr => ∃ q : Nat, i = .int .i64 q ∧ q ≤ C.length ∧ ∃ m : Nat, kv = .int .i64 m ∧ cv = .int .i64 m ∧ m ≤ 2199023255488 ∧ Hid (m = n + ((C.take q).filter fun c => decide (c = ch)).length) ∧ Hid (Fr (fun _ => False) wq wr)) (fun _ _ i _ => C.length - (intOf i).toNat)
          case atStart => exact ⟨0, rfl, by omega, n, rfl, rfl, hn, (show n = _ by simp), Fr.refl _ _⟩
          case round =>
            obtain ⟨q, rfl, hq, m, rfl, rfl, hm, HM, HFr⟩ := hrel
            obtain ⟨wz, rfl⟩ : ∃ x, x = wr := ⟨_, rfl⟩
            by_cases hltq : q < C.length
            · obtain ⟨g8, off8, rfl, ct⟩ := texts_at (HCA.out.fr HFr.out (fun _ _ h => h)) q hltq
              have hsucc := take_filter_succ C (fun c => decide (c = ch)) q hltq
              have hnx := HNX.out q hltq
              obtain ⟨x, hx⟩ : ∃ x, C[q] = x := ⟨_, rfl⟩
              rw [hx] at ct hsucc hnx
              have b2 : (0 : Int) ≤ (q : Int) := by omega
              have b3 : (q : Int) < (C.length : Int) := by omega
              by_cases hxc : x = ch
              · subst hxc
                have hq1 : (x.toList == x.toList) = true := by rw [str_beq]; simp
                have hq2 : (x.toList != x.toList) = false := by simp [bne, hq1]
                have hom := hnx rfl
                rw [← HM.out] at hom
                obtain ⟨hmo, hoe⟩ := List.getElem?_eq_some_iff.1 hom
                obtain ⟨g7, off7, ua, uc, rfl, y0, y1, y2, y3, y4, hrow⟩ := out_at (HOT.out.quiet (HFQ.out.wide HFr.out (fun _ h => h.elim))) m hmo
                rw [hoe] at y0 y4 hrow
                have HM2 : Hid (m + 1 = n + ((C.take (q + 1)).filter fun c => decide (c = x)).length) := by
                  show _ = _
                  rw [hsucc, decide_eq_true (rfl : x = x), HM.out]; simp only [if_true]; omega
                have d0 : (0 : Int) ≤ (m : Int) := by omega
                have d1 : (m : Int) < (O.length : Int) := by omega
                have HRR := Lib.hid (RdC.of_owns hrow)
                have hm3 : m + 1 ≤ 2199023255488 := by omega
                dsimp only [msgL] at y0 y4 HRR
                clear hom hoe hrow hsucc hnx hx
                go_wp2_with fail
                have HAL : Hid (Fr (fun _ => False) wz (wz.alloc (.cells #[.string ⟨#[109, 101, 115, 115, 97, 103, 101]⟩, .string x, .string text] 9))) := Fr.alloc _ _ _
                refine (said25_any _ _ _ [⟨#[109, 101, 115, 115, 97, 103, 101]⟩, x, text] (HRR.out.fr HAL.out (fun _ _ h => h)) (RdC.of_owns (World.ownsRow_lit (base := 0) (e := 9) (size := 1) wz #[.string ⟨#[109, 101, 115, 115, 97, 103, 101]⟩, .string x, .string text] 3 (Nat.zero_le _) (by decide) rfl)) (by simp)).mono ?_
                rintro e wy ⟨rfl, hfy⟩
                have HFY := Lib.hid ((HFr.out.wide HAL.out (fun _ h => h.elim)).wide hfy (fun _ h => h.elim))
                clear hfy
                go_wp2_with fail
                go_roundw
                case rel => exact ⟨q + 1, by go_num, by omega, m + 1, by go_num, by go_num, by omega, HM2, HFY⟩
                case measure => simp [intOf]; omega
              · have hq1 : (x.toList == ch.toList) = false := by rw [str_beq]; simpa using hxc
                have hq2 : (x.toList != ch.toList) = true := by simp [bne, hq1]
                have HM2 : Hid (m = n + ((C.take (q + 1)).filter fun c => decide (c = ch)).length) := by
                  show _ = _
                  rw [hsucc, decide_eq_false hxc, HM.out]; simp
                clear hsucc hnx hx hxc
                go_wp2_with fail
                go_roundw
                case rel => exact ⟨q + 1, by go_num, by omega, m, rfl, rfl, hm, HM2, HFr⟩
                case measure => simp [intOf]; omega
            · obtain rfl : q = C.length := by omega
              have HM2 : Hid (m = ((Z.take (j + 1)).flatMap (nameL fc ch text)).length) := by
                show _ = _
                rw [HNL.out, HM.out, List.take_length]
              go_wp2_with fail
              go_roundw
              case rel => exact ⟨j + 1, by go_num, by omega, m, rfl, rfl, hm, HM2, HFQ.out.wide HFr.out (fun _ h => h.elim)⟩
              case measure => simp [intOf]; omega
        · obtain rfl : j = Z.length := by omega
          have HNA : Hid (n = A.length) := by
            show _ = _
            rw [HN.out, List.take_length, HA.out]
          clear HN
          go_wp2_with fail
          go_loopw [13, 130] (fun kv i wr => ∃ j : Nat, i = .int .i64 j ∧ j ≤ Z.length ∧ ∃ n : Nat, kv = .int .i64 n ∧ n ≤ 2199023255488 ∧ Hid (n = A.length + ((Z.take j).flatMap (patL fp ch text)).length) ∧ Hid (Fr (fun _ => False) wt wr)) (fun _ i _ => Z.length - (intOf i).toNat)
          case atStart => exact ⟨0, rfl, by omega, n, rfl, hn, (show n = _ by rw [HNA.out]; simp), HF⟩
          case round =>
            obtain ⟨j, rfl, hj, n5, rfl, hn5, HN, HF5⟩ := hrel
            obtain ⟨wp5, rfl⟩ : ∃ x, x = wr := ⟨_, rfl⟩
            by_cases hltj : j < Z.length
            · have HDp := Lib.hid (HDt.out.quiet HF5.out)
              obtain ⟨g9, off9, rfl, hc9⟩ := (RdC.of_owns HDp.out.row).at (by rw [List.length_map]; omega)
              obtain ⟨s, hz⟩ : ∃ z, Z[j] = z := ⟨_, rfl⟩
              have cz : wp5.cell? ⟨g9, off9 + j, none⟩ = some (.int .i64 s) := hc9 j _ (by rw [List.getElem?_map, List.getElem?_eq_getElem hltj, hz]; rfl)
              have hs : kI.ok s := HDp.out.ok s (by rw [← hz]; exact List.getElem_mem hltj)
              obtain ⟨C, hC⟩ : ∃ C, sortS (fp s) = C := ⟨_, rfl⟩
              have hcl : C.length ≤ 1024 := by rw [← hC, sortS_len]; have := HDp.out.a.few s; omega
              have HCH := Lib.hid (patt_any HDp.out.a s hs hC)
              have HUP : Hid (C.Pairwise ltS) := by show C.Pairwise ltS; rw [← hC]; exact sortS_rises (HDp.out.a.nodupP s)
              have HSM : Hid (∀ x ∈ C, x.size ≤ 1024) := fun x hx => HDp.out.sm.2 s x (by rw [← hC] at hx; exact (mem_sortS _ _).1 hx)
              have HNX : Hid (∀ q (hq : q < C.length), gm C[q] ch = true → O[n5 + ((C.take q).filter fun c => gm c ch).length]? = some (pmsgL s C[q] ch text)) := fun q hq e => by
                have h9 := flat_next (A := A) (O := O) (R := []) (Z := Z) (f := patL fp ch text) (j := j) (hj := hltj) (C := C) (p := fun c => gm c ch) (g := fun c => pmsgL s c ch text) hq (by rw [List.append_nil]; exact HO.out.symm) (by rw [hz, ← hC]; rfl) e
                rw [← HN.out] at h9
                exact h9
              have HNL : Hid (A.length + ((Z.take (j + 1)).flatMap (patL fp ch text)).length = n5 + (C.filter fun c => gm c ch).length) := by
                show _ = _
                rw [List.take_succ_eq_append_getElem hltj, List.flatMap_append, List.length_append, HN.out, List.flatMap_singleton, hz]
                unfold patL
                rw [List.length_map, hC]
                omega
              have c0 : (0 : Int) ≤ (j : Int) := by omega
              have c1 : (j : Int) < (Z.length : Int) := by omega
              clear hc9 hz hs hC
              go_wp2_with fail
              refine HCH.out.mono ?_
              rintro e wq ⟨ca, cc, rfl, hca, -, hfq⟩
              have HCA := Lib.hid hca
              have HFQ := Lib.hid (HF5.out.wide hfq (fun _ h => h.elim))
              clear hca hfq
              go_wp2_with fail
              go_loopw [13, 21, 138] (fun kv lv i wr => ∃ q : Nat, i = .int .i64 q ∧ q ≤ C.length ∧ ∃ (m : Nat) (la : ByteArray), kv = .int .i64 m ∧ lv = .string la ∧ m ≤ 2199023255488 ∧ Hid (m = n5 + ((C.take q).filter fun c => gm c ch).length) ∧ Hid (∀ (hq : q < C.length), 0 < q → ltS la C[q]) ∧ Hid (Fr (fun _ => False) wq wr)) (fun _ _ i _ => C.length - (intOf i).toNat)
              case atStart => exact ⟨0, rfl, by omega, n5, ⟨#[]⟩, rfl, rfl, hn5, (show n5 = _ by simp), fun _ h => absurd h (by omega), Fr.refl _ _⟩
              case round =>
                obtain ⟨q, rfl, hq, m, la, rfl, rfl, hm, HM, HLA, HFr⟩ := hrel
                obtain ⟨wz, rfl⟩ : ∃ x, x = wr := ⟨_, rfl⟩
                by_cases hltq : q < C.length
                · obtain ⟨g8, off8, rfl, ct⟩ := texts_at (HCA.out.fr HFr.out (fun _ _ h => h)) q hltq
                  have hsucc := take_filter_succ C (fun c => gm c ch) q hltq
                  have hnx := HNX.out q hltq
                  have hla := HLA.out hltq
                  have hxs := HSM.out C[q] (List.getElem_mem hltq)
                  have HLN : Hid (∀ (hq : q + 1 < C.length), 0 < q + 1 → ltS C[q] C[q + 1]) := fun hq1 _ => List.pairwise_iff_getElem.1 HUP.out q (q + 1) hltq hq1 (by omega)
                  obtain ⟨x, hx⟩ : ∃ x, C[q] = x := ⟨_, rfl⟩
                  rw [hx] at ct hsucc hnx hla hxs HLN
                  have b2 : (0 : Int) ≤ (q : Int) := by omega
                  have b3 : (q : Int) < (C.length : Int) := by omega
                  have HMA := fun w => Lib.hid (match_any x ch w (by omega) (by omega))
                  have hle : q = 0 ∨ (0 < q ∧ (Op.bytesLess x.toList la.toList || x.toList == la.toList) = false) := by
                    by_cases e : q = 0
                    · exact .inl e
                    · exact .inr ⟨by omega, not_le25 (hla (by omega))⟩
                  clear hx hla hxs
                  go_upto_region 38 with (fail)
                  go_cut [149] from 143 to 149 (fun t wc => wc = wz ∧ t = .bool false)
                  case first =>
                    rcases hle with rfl | ⟨h0, hle⟩
                    · go_wp2
                      go_meet
                      case rel => exact ⟨rfl, rfl⟩
                    · have hg : (0 : Int) < (q : Int) := by omega
                      go_wp2
                      go_meet
                      case rel => exact ⟨rfl, by first | rfl | rw [hle]⟩
                  case rest =>
                  obtain ⟨rfl, rfl⟩ := hcut
                  clear hle
                  go_wp2_with fail
                  refine (HMA _).out.mono ?_
                  rintro e w4 ⟨rfl, m4, hm4⟩
                  have hq4 : Fr (fun _ => False) wc w4 := by rw [hm4]; exact Fr.drewN (fun _ => False) wc m4
                  have HFr4 := Lib.hid (HFr.out.wide hq4 (fun _ h => h.elim))
                  clear hm4 hq4
                  cases hg : gm x ch with
                  | false =>
                    rw [hg] at hsucc
                    have HM2 : Hid (m = n5 + ((C.take (q + 1)).filter fun c => gm c ch).length) := by
                      show _ = _
                      rw [hsucc, HM.out]; simp
                    clear hsucc hnx hg
                    go_wp2_with fail
                    go_roundw
                    case rel => exact ⟨q + 1, by go_num, by omega, m, x, rfl, rfl, hm, HM2, HLN.out, HFr4⟩
                    case measure => simp [intOf]; omega
                  | true =>
                    have hom := hnx hg
                    rw [hg] at hsucc
                    rw [← HM.out] at hom
                    obtain ⟨hmo, hoe⟩ := List.getElem?_eq_some_iff.1 hom
                    obtain ⟨g7, off7, ua, uc, rfl, y0, y1, y2, y3, y4, hrow⟩ := out_at (HOT.out.quiet (HFQ.out.wide HFr4.out (fun _ h => h.elim))) m hmo
                    rw [hoe] at y0 y4 hrow
                    have HM2 : Hid (m + 1 = n5 + ((C.take (q + 1)).filter fun c => gm c ch).length) := by
                      show _ = _
                      rw [hsucc, HM.out]; simp only [if_true]; omega
                    have d0 : (0 : Int) ≤ (m : Int) := by omega
                    have d1 : (m : Int) < (O.length : Int) := by omega
                    have HRR := Lib.hid (RdC.of_owns hrow)
                    have hm3 : m + 1 ≤ 2199023255488 := by omega
                    dsimp only [pmsgL] at y0 y4 HRR
                    clear hom hoe hrow hsucc hnx hg
                    go_wp2_with fail
                    have HAL : Hid (Fr (fun _ => False) w4 (w4.alloc (.cells #[.string ⟨#[112, 109, 101, 115, 115, 97, 103, 101]⟩, .string x, .string ch, .string text] 9))) := Fr.alloc _ _ _
                    refine (said25_any _ _ _ [⟨#[112, 109, 101, 115, 115, 97, 103, 101]⟩, x, ch, text] (HRR.out.fr HAL.out (fun _ _ h => h)) (RdC.of_owns (World.ownsRow_lit (base := 0) (e := 9) (size := 1) w4 #[.string ⟨#[112, 109, 101, 115, 115, 97, 103, 101]⟩, .string x, .string ch, .string text] 4 (Nat.zero_le _) (by decide) rfl)) (by simp)).mono ?_
                    rintro e wy ⟨rfl, hfy⟩
                    have HFY := Lib.hid ((HFr4.out.wide HAL.out (fun _ h => h.elim)).wide hfy (fun _ h => h.elim))
                    clear hfy
                    go_wp2_with fail
                    go_roundw
                    case rel => exact ⟨q + 1, by go_num, by omega, m + 1, x, by go_num, rfl, by omega, HM2, HLN.out, HFY⟩
                    case measure => simp [intOf]; omega
                · obtain rfl : q = C.length := by omega
                  have HM2 : Hid (m = A.length + ((Z.take (j + 1)).flatMap (patL fp ch text)).length) := by
                    show _ = _
                    rw [HNL.out, HM.out, List.take_length]
                  go_wp2_with fail
                  go_roundw
                  case rel => exact ⟨j + 1, by go_num, by omega, m, rfl, hm, HM2, HFQ.out.wide HFr.out (fun _ h => h.elim)⟩
                  case measure => simp [intOf]; omega
            · obtain rfl : j = Z.length := by omega
              have HNO : n5 = O.length := by
                have h9 := HN.out
                rw [List.take_length, ← List.length_append, HO.out] at h9
                exact h9
              subst HNO
              have HDp := Lib.hid (HDt.out.quiet HF5.out)
              have HCO := Lib.hid (countT_any HDp.out.a ch text (by unfold maxLen; omega) HDp.out.up HDp.out.nm)
              rw [HA.out, ← HNA.out] at HCO
              go_wp2_with fail
              refine HCO.out.mono ?_
              rintro e wz ⟨rfl, rfl⟩
              go_wp2_with fail
              go_ret
              exact ⟨by simp, HDp.out.below⟩
end Go.Proofs.YtleoeccjnchclaaDoor
