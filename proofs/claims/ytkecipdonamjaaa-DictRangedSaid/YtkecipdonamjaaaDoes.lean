/- A step of a dict and of the plain list beside it: the walk of pantrylaw05's does. -/
import Derived.Test.YtkecipdonamjaaaDictK
import Derived.Maps.AppendAt
namespace Go.Proofs.Ytkecipdonamjaaa
open Go.RowKit Di

/-- a step as it comes in -/
structure Sp where
  who : Int
  do_ : Int
  n : Int
  v : Int
  key : ByteArray
  r : UInt64
def spCells (o : Sp) : List Value := [.int .i64 o.who, .int .i64 o.do_, .int .i64 o.n, .int .i64 o.v, .string o.key, .int .u64 (wd o.r)]
def spVal (o : Sp) : Value := .agg #[.int .i64 o.who, .int .i64 o.do_, .int .i64 o.n, .int .i64 o.v, .string o.key, .int .u64 (wd o.r)]
def enCells (e : En) : List Value := [.string e.1, .int .i64 e.2]
abbrev RowE (B : Nat) (w : World) (v : Value) (L : Pl) : Prop := w.ownsRow B 54 2 v L.length (L.flatMap enCells)
theorem infoEn : (Try.prog.info? 54).map (fun i => (i.zero, i.size, i.bytes)) = some (some (.agg #[.string ⟨#[]⟩, .int .i64 0]), 2, 24) := by kernel_rfl
theorem flat_get (L : Pl) (k : Nat) (h : k < L.length) : (L.flatMap enCells)[k * 2]? = some (.string L[k].1) ∧ (L.flatMap enCells)[k * 2 + 1]? = some (.int .i64 L[k].2) := by
  induction L generalizing k with
  | nil => simp at h
  | cons e L ih =>
    cases k with
    | zero => exact ⟨rfl, rfl⟩
    | succ k =>
      have := ih k (by simpa using h)
      simp only [List.flatMap_cons, enCells, List.getElem_cons_succ]
      rw [show (k + 1) * 2 = k * 2 + 1 + 1 by omega]
      exact this
theorem flat_len (L : Pl) : (L.flatMap enCells).length = L.length * 2 := by
  induction L with
  | nil => rfl
  | cons e L ih => simp only [List.flatMap_cons, List.length_append, ih, List.length_cons, enCells, List.length_nil]; omega
theorem rowE_cells {B : Nat} {w : World} {v : Value} {L : Pl} (h : RowE B w v L) (hne : L ≠ []) :
    ∃ g cap, v = .slice (some ⟨g, 0, none⟩) L.length cap ∧ L.length ≤ cap ∧ cap ≤ maxLen ∧ B ≤ g ∧ (∀ k (hk : k < L.length), w.cell? ⟨g, k * 2, none⟩ = some (.string L[k].1) ∧ w.cell? ⟨g, k * 2 + 1, none⟩ = some (.int .i64 L[k].2)) ∧ ∀ i, w.frozen? ⟨g, i, none⟩ = false := by
  have h0 := h
  rcases h.2 with ⟨_, hz⟩ | ⟨g, cap, cur, rfl, hb, hg, hnc, hcm, hcs, htake⟩
  · exact absurd (List.length_eq_zero_iff.1 hz) hne
  · refine ⟨g, cap, rfl, hnc, hcm, hb, fun k hk => ?_, fun i => free_of_blk hg i⟩
    obtain ⟨e1, e2⟩ := flat_get L k hk
    have c1 := h0.cells rfl (k * 2) _ e1
    have c2 := h0.cells rfl (k * 2 + 1) _ e2
    rw [Addr.add_lit, Nat.zero_add] at c1 c2
    exact ⟨c1, c2⟩
theorem rowE_slice {B : Nat} {w : World} {v : Value} {L : Pl} (h : RowE B w v L) : ∃ a cap, v = .slice a L.length cap := owns_slice h
def atI (key : ByteArray) (L : Pl) : Int := match atOf key L with
  | some i => (i : Int)
  | none => -1
theorem owns_fr {w w' : World} {B : Nat} {e : TypeId} {size : Nat} {v : Value} {n : Nat} {xs : List Value} (h : w.ownsRow B e size v n xs) {S : Nat → Prop} (hf : Fr S w w') (hd : ∀ g, v.ownBlock = some g → ¬ S g) : w'.ownsRow B e size v n xs := by
  rcases h with ⟨h1, h2 | ⟨g, cap, cur, rfl, hb, hg, hnc, hcm, hcs, htake⟩⟩
  · exact ⟨h1, .inl h2⟩
  · exact ⟨h1, .inr ⟨g, cap, cur, rfl, hb, (hf.block g (Array.getElem?_eq_some_iff.1 hg).1 (hd g rfl)).trans hg, hnc, hcm, hcs, htake⟩⟩
theorem flat_set (L : Pl) (i : Nat) (hi : i < L.length) (e : En) : (L.set i e).flatMap enCells = ((L.flatMap enCells).set (i * 2) (.string e.1)).set (i * 2 + 1) (.int .i64 e.2) := by
  induction L generalizing i with
  | nil => simp at hi
  | cons a L ih =>
    cases i with
    | zero => rfl
    | succ i =>
      have := ih i (by simpa using hi)
      simp only [List.set_cons_succ, List.flatMap_cons, this, enCells]
      rw [show (i + 1) * 2 = i * 2 + 1 + 1 by omega]
      rfl
theorem flat_dropLast (L : Pl) : (L.dropLast).flatMap enCells = (L.flatMap enCells).take ((L.length - 1) * 2) := by
  induction L with
  | nil => rfl
  | cons a L ih =>
    cases L with
    | nil => rfl
    | cons b L =>
      simp only [List.dropLast_cons_cons, List.flatMap_cons, List.length_cons] at ih ⊢
      rw [ih]
      rw [show (L.length + 1 + 1 - 1) * 2 = (L.length + 1 - 1) * 2 + 1 + 1 by omega]
      rfl
theorem rowE_put {B : Nat} {w : World} {g n cap : Nat} {L : Pl} (h : RowE B w (.slice (some ⟨g, 0, none⟩) n cap) L) (hn : n = L.length) (i : Nat) (hi : i < L.length) (e : En) :
    RowE B ((w.setCell ⟨g, i * 2, none⟩ (.string e.1)).setCell ⟨g, i * 2 + 1, none⟩ (.int .i64 e.2)) (.slice (some ⟨g, 0, none⟩) n cap) (L.set i e) := by
  rcases h with ⟨h1, ⟨h2, _⟩ | ⟨g', cap', cur, he, hb, hg, hnc, hcm, hcs, htake⟩⟩
  · cases h2
  · cases he
    have e1 := heap_setCell_same w g (i * 2) cur _ (.string e.1) hg
    have e2 := heap_setCell_same _ g (i * 2 + 1) _ _ (.int .i64 e.2) e1
    refine ⟨by rw [flat_len], .inr ⟨g, cap, _, by rw [List.length_set, hn], hb, e2, by rw [List.length_set]; exact hnc, hcm, by simpa using hcs, ?_⟩⟩
    rw [flat_set L i hi e, ← htake]
    simp only [Array.toList_setIfInBounds, List.take_set, List.length_set]
theorem flat_setV (L : Pl) (i : Nat) (hi : i < L.length) (x : Int) : (L.set i (L[i].1, x)).flatMap enCells = (L.flatMap enCells).set (i * 2 + 1) (.int .i64 x) := by
  rw [flat_set L i hi]
  obtain ⟨e1, _⟩ := flat_get L i hi
  congr 1
  apply List.ext_getElem?
  intro j
  rw [List.getElem?_set]
  split
  · rename_i hj
    subst hj
    rw [if_pos (List.getElem?_eq_some_iff.1 e1).1, e1]
  · rfl
theorem rowE_setV {B : Nat} {w : World} {g n cap : Nat} {L : Pl} (h : RowE B w (.slice (some ⟨g, 0, none⟩) n cap) L) (hn : n = L.length) (i : Nat) (hi : i < L.length) (x : Int) :
    RowE B (w.setCell ⟨g, i * 2 + 1, none⟩ (.int .i64 x)) (.slice (some ⟨g, 0, none⟩) n cap) (L.set i (L[i].1, x)) := by
  rcases h with ⟨h1, ⟨h2, _⟩ | ⟨g', cap', cur, he, hb, hg, hnc, hcm, hcs, htake⟩⟩
  · cases h2
  · cases he
    have e1 := heap_setCell_same w g (i * 2 + 1) cur _ (.int .i64 x) hg
    refine ⟨by rw [flat_len], .inr ⟨g, cap, _, by rw [List.length_set, hn], hb, e1, by rw [List.length_set]; exact hnc, hcm, by simpa using hcs, ?_⟩⟩
    rw [flat_setV L i hi x, ← htake]
    simp only [Array.toList_setIfInBounds, List.take_set, List.length_set]
theorem rowE_cut {B : Nat} {w : World} {g n cap : Nat} {L : Pl} (h : RowE B w (.slice (some ⟨g, 0, none⟩) n cap) L) (hn : n = L.length) : RowE B w (.slice (some ⟨g, 0, none⟩) (n - 1) cap) L.dropLast := by
  rcases h with ⟨h1, ⟨h2, _⟩ | ⟨g', cap', cur, he, hb, hg, hnc, hcm, hcs, htake⟩⟩
  · cases h2
  · cases he
    refine ⟨by rw [flat_len], .inr ⟨g, cap, cur, by rw [List.length_dropLast, hn], hb, hg, by rw [List.length_dropLast]; omega, hcm, hcs, ?_⟩⟩
    rw [flat_dropLast, ← htake, List.take_take, List.length_dropLast, Nat.min_eq_left (by omega)]
theorem chainT_typed {ET : TypeId} (c : List E) (tl : Value) : ∀ x ∈ chainT ET c tl, ∃ cs, x.2 = .cells cs ET (0, 0) := by
  induction c with
  | nil => intro x hx; cases hx
  | cons e c ih =>
    intro x hx
    rcases List.mem_cons.1 hx with rfl | hx
    · exact ⟨_, rfl⟩
    · exact ih x hx
theorem tabO_typed {ET PT : TypeId} (t : Nat) (cs : List (List E)) : ∀ x ∈ tabO ET PT t cs, ∃ a ty, x.2 = .cells a ty (0, 0) ∧ (ty = ET ∨ ty = PT) := by
  intro x hx
  by_cases h : cs = []
  · subst h; rw [tabO_nil] at hx; cases hx
  · rw [tabO_of h] at hx
    rcases List.mem_cons.1 hx with rfl | hx
    · exact ⟨_, _, rfl, .inr rfl⟩
    · obtain ⟨c, _, hc⟩ := List.mem_flatMap.1 hx
      obtain ⟨a, ha⟩ := chainT_typed c _ x hc
      exact ⟨a, _, ha, .inl rfl⟩
theorem dict_typed {ET PT DT : TypeId} (d : Nat) (M : DM) : ∀ x ∈ dictO ET PT DT d M, ∃ a ty, x.2 = .cells a ty (0, 0) ∧ (ty = ET ∨ ty = PT ∨ ty = DT) := by
  intro x hx
  rcases List.mem_cons.1 hx with rfl | hx
  · exact ⟨_, _, rfl, .inr (.inr rfl)⟩
  · rcases List.mem_append.1 hx with hx | hx
    · obtain ⟨a, ty, h1, h2⟩ := tabO_typed _ _ x hx; exact ⟨a, ty, h1, h2.elim .inl (fun h => .inr (.inl h))⟩
    · obtain ⟨a, ty, h1, h2⟩ := tabO_typed _ _ x hx; exact ⟨a, ty, h1, h2.elim .inl (fun h => .inr (.inl h))⟩
theorem row_apart {w : World} {d : Nat} {M : DM} {B : Nat} {e : TypeId} {size : Nat} {v : Value} {n : Nat} {xs : List Value} (h : DAt w d M) (hr : w.ownsRow B e size v n xs) (he : e ≠ 114 ∧ e ≠ 112 ∧ e ≠ 109) :
    ∀ g, v.ownBlock = some g → ¬ Bs (dictL d M) g := by
  intro g hg hb
  obtain ⟨x, hx, hxg⟩ := List.mem_map.1 hb
  obtain ⟨a, ty, h1, h2⟩ := dict_typed d M x hx
  have h3 := h.rep x hx
  rw [hxg, h1] at h3
  rcases hr.2 with ⟨rfl, _⟩ | ⟨g', cap, cur, rfl, _, h4, _⟩
  · cases hg
  · cases hg
    rw [h4] at h3
    simp only [Option.some.injEq, Obj.cells.injEq] at h3
    rcases h2 with h2 | h2 | h2
    · exact he.1 (h3.2.1.trans h2)
    · exact he.2.1 (h3.2.1.trans h2)
    · exact he.2.2 (h3.2.1.trans h2)
/-- a dict and a row of entries in memory, apart from each other, both in blocks from B on -/
structure Pr (B : Nat) (w : World) (d : Nat) (M : DM) (v : Value) (R : Pl) : Prop where
  dat : DAt w d M
  row : RowE B w v R
  dis : ∀ g, v.ownBlock = some g → ¬ Bs (dictL d M) g
  base : ∀ k, Bs (dictL d M) k → B ≤ k
  le : B ≤ w.heap.size
theorem Pr.turn {B : Nat} {w w' : World} {d : Nat} {M M' : DM} {v : Value} {R : Pl} (h : Pr B w d M v R) (t : Turn w d M w' M') : Pr B w' d M' v R :=
  ⟨t.at_, owns_fr h.row t.fr h.dis, fun g hg hb => (t.bs g hb).elim (h.dis g hg) (fun hl => by have := (h.row.lt g hg).2; omega),
    fun k hk => (t.bs k hk).elim (h.base k) (fun hl => Nat.le_trans h.le hl), Nat.le_trans h.le t.fr.size⟩
theorem Pr.other {B : Nat} {w w' : World} {d : Nat} {M : DM} {v : Value} {R : Pl} (h : Pr B w d M v R) {S : Nat → Prop} (hf : Fr S w w') (hd : ∀ k, Bs (dictL d M) k → ¬ S k) (hv : ∀ g, v.ownBlock = some g → ¬ S g) : Pr B w' d M v R :=
  ⟨h.dat.fr hf hd, owns_fr h.row hf hv, h.dis, h.base, Nat.le_trans h.le hf.size⟩
theorem Pr.newRow {B : Nat} {w w' : World} {d : Nat} {M : DM} {v v' : Value} {R R' : Pl} (h : Pr B w d M v R) {S : Nat → Prop} (hf : Fr S w w') (hd : ∀ k, Bs (dictL d M) k → ¬ S k) (hr : RowE B w' v' R') : Pr B w' d M v' R' :=
  ⟨h.dat.fr hf hd, hr, row_apart (h.dat.fr hf hd) hr (by decide), h.base, Nat.le_trans h.le hf.size⟩
theorem Pr.noRow {B : Nat} {w : World} {d : Nat} {M : DM} {v : Value} {R : Pl} (h : Pr B w d M v R) : Pr B w d M (.slice none 0 0) [] :=
  ⟨h.dat, World.ownsRow_nil _ _ _ _, (fun g hg => by cases hg), h.base, h.le⟩
def doesL (o : Sp) (L : Pl) : Pl := if o.do_ = 0 then setL L o.key o.v else if o.do_ = 2 then delL L o.key else if o.do_ = 3 then [] else L
/-- what a step leaves -/
def DoesPost (B : Nat) (w : World) (d : Nat) (M : DM) (v : Value) (L : Pl) (o : Sp) (e : Ending) (w' : World) : Prop :=
  ∃ v' M', e = .returned (.tuple #[v', .bool true]) ∧ Pr B w' d M' v' (doesL o L) ∧ Like M' (doesL o L) ∧ Below B w w' ∧ SL M M' ∧ (o.do_ ≠ 3 → Little M M') ∧ (o.do_ = 3 → M'.at_ = 0) ∧ (3 < o.do_ → M' = M) ∧ Fr (fun k => Bs (dictL d M) k ∨ v.ownBlock = some k) w w'
/-- what append hands back, beside: it lies where the slice lay, or in a new block -/
def DoesPost2 (B : Nat) (w : World) (d : Nat) (M : DM) (v : Value) (L : Pl) (o : Sp) (e : Ending) (w' : World) : Prop :=
  ∃ v' M', e = .returned (.tuple #[v', .bool true]) ∧ Pr B w' d M' v' (doesL o L) ∧ Like M' (doesL o L) ∧ Below B w w' ∧ SL M M' ∧ (o.do_ ≠ 3 → Little M M') ∧ (o.do_ = 3 → M'.at_ = 0) ∧ (3 < o.do_ → M' = M) ∧ Fr (fun k => Bs (dictL d M) k ∨ v.ownBlock = some k) w w' ∧ (∀ g, v'.ownBlock = some g → v.ownBlock = some g ∨ w.heap.size ≤ g)
theorem lit_at {w : World} {cs : Array Value} {t : TypeId} : ∀ j u, cs.toList[j]? = some u → (w.alloc (.cells cs t)).cell? ((⟨w.heap.size, 0, none⟩ : Addr).add j) = some u := by
  intro j u hu
  rw [Addr.add_lit, Nat.zero_add, cell_of_blk (alloc_at w (.cells cs t)) j]
  simpa using hu
set_option maxRecDepth 100000 in
set_option maxHeartbeats 2000000 in
theorem does_any2 (w : World) (d : Nat) (M : DM) (L : Pl) (v : Value) (o : Sp) (B : Nat) (hl : Like M L) (hn : L.length < 5864062014000) (hk : o.key.size ≤ maxLen) (hp : Pr B w d M v L) :
    Calls Try.prog 28 #[.pointer (some ⟨d, 0, none⟩), v, spVal o] w (DoesPost2 B w d M v L o) := by
  have hrow := hp.row
  have HP := Lib.hid hp
  clear hp
  obtain ⟨a, cap, rfl⟩ := rowE_slice hrow
  unfold spVal
  go_enter Try.func28, Try.ntmps28
  obtain ⟨SC, hSC⟩ : ∃ SC : Array Value, SC = #[.int .i64 o.who, .int .i64 o.do_, .int .i64 o.n, .int .i64 o.v, .string o.key, .int .u64 (wd o.r)] := ⟨_, rfl⟩
  have HSC := Lib.hid hSC; clear hSC
  go_wp2
  go_loopw [8, 17] (fun at_ i wr => ∃ k : Nat, k ≤ L.length ∧ i = .int .i64 k ∧ at_ = .int .i64 (atI o.key (L.take k)) ∧ Hid (Fr (fun _ => False) w wr) ∧ Hid (wr.heap[w.heap.size]? = some (.cells SC 32 (0, 0)))) (fun _ i _ => L.length - (intOf i).toNat)
  case atStart => exact ⟨0, by omega, rfl, rfl, Fr.alloc _ _ _, by show _ = _; rw [HSC.out]; exact alloc_at _ _⟩
  case round =>
    obtain ⟨k, hkL, rfl, rfl, HF, HB⟩ := hrel
    have b1 : wr.cell? ⟨w.heap.size, 1, none⟩ = some (.int .i64 o.do_) := by rw [cell_of_blk HB.out, HSC.out]; rfl
    have b3 : wr.cell? ⟨w.heap.size, 3, none⟩ = some (.int .i64 o.v) := by rw [cell_of_blk HB.out, HSC.out]; rfl
    have b4 : wr.cell? ⟨w.heap.size, 4, none⟩ = some (.string o.key) := by rw [cell_of_blk HB.out, HSC.out]; rfl
    have hsz : w.heap.size < wr.heap.size := (Array.getElem?_eq_some_iff.1 HB.out).1
    by_cases hlt : k < L.length
    · have hne : L ≠ [] := by intro e; rw [e] at hlt; simp at hlt
      obtain ⟨g, cap', e, _, _, _, hc, _⟩ := rowE_cells hrow hne
      cases e
      obtain ⟨c1, c2⟩ := hc k hlt
      have c1 := HF.out.cell c1 (fun h => h)
      have c2 := HF.out.cell c2 (fun h => h)
      obtain ⟨x, hx⟩ : ∃ x, L[k] = x := ⟨_, rfl⟩
      rw [hx] at c1 c2
      have htk : L.take (k + 1) = L.take k ++ [x] := by rw [List.take_succ_eq_append_getElem hlt, hx]
      have hat := atOf_snoc o.key (L.take k) x
      rw [← htk, List.length_take, Nat.min_eq_left hkL] at hat
      have HX := Lib.hid hx; clear hx
      have HAT := Lib.hid hat; clear hat htk
      clear hc
      by_cases hke : x.1 = o.key
      · have hb : (x.1.toList == o.key.toList) = true := by rw [str_beq]; simpa using hke
        have HKE := Lib.hid hke; clear hke
        go_wp2
        go_roundw
        case rel =>
          refine ⟨k + 1, by omega, by go_num, ?_, HF.out.thenAlloc _, ((Fr.alloc (fun _ => False) wr _).block _ hsz (fun h => h)).trans HB.out⟩
          unfold atI; rw [HAT.out, if_pos HKE.out]
        case measure => simp [intOf]; omega
      · have hb : (x.1.toList == o.key.toList) = false := by rw [str_beq]; simpa using hke
        have HKE := Lib.hid hke; clear hke
        go_wp2
        go_roundw
        case rel =>
          refine ⟨k + 1, by omega, by go_num, ?_, HF.out.thenAlloc _, ((Fr.alloc (fun _ => False) wr _).block _ hsz (fun h => h)).trans HB.out⟩
          unfold atI; rw [HAT.out, if_neg HKE.out]
        case measure => simp [intOf]; omega
    · obtain rfl : k = L.length := by omega
      rw [List.take_length]
      have P2 : Pr B wr d M (.slice a L.length cap) L := HP.out.other HF.out (fun _ _ h => h) (fun _ _ h => h)
      have hsbd : ¬ Bs (dictL d M) w.heap.size := fun hb => Nat.lt_irrefl _ (HP.out.dat.rep.lt hb)
      have hbw : Below B w wr := HF.out.below HP.out.le (fun i h => h.elim)
      have HP2 := Lib.hid P2
      have HSB := Lib.hid hsbd
      have HBW := Lib.hid hbw
      have HFS : Hid (Fr (fun k => Bs (dictL d M) k ∨ (Value.slice a L.length cap).ownBlock = some k) w wr) := HF.out.mono (fun i h _ => h.elim)
      have hturn : ∀ w2 M', Turn wr d M w2 M' → Fr (fun k => Bs (dictL d M) k ∨ (Value.slice a L.length cap).ownBlock = some k) w w2 := fun w2 M' T => HFS.out.trans (T.fr.mono (fun i h _ => Or.inl (b := (Value.slice a L.length cap).ownBlock = some i) h)) (fun i h _ => h)
      have HTN := Lib.hid hturn
      clear hturn
      have hrow2 := P2.row
      clear P2 hsbd hbw HP HF HB hlt hkL
      have hkey : ∀ i, atOf o.key L = some i → ∃ hi : i < L.length, L[i].1 = o.key := fun i hi => by
        obtain ⟨x, hx⟩ := atOf_some hi
        obtain ⟨hl, he⟩ := List.getElem?_eq_some_iff.1 hx
        exact ⟨hl, by rw [he]⟩
      have HKEY := Lib.hid hkey; clear hkey
      by_cases h0 : o.do_ = 0
      · rw [h0] at b1
        have H0 : Hid (doesL o L = setL L o.key o.v) := by show _ = _; unfold doesL; rw [if_pos h0]
        have H3 : Hid (¬ 3 < o.do_) := by show ¬ _; omega
        have HN3 : Hid (o.do_ ≠ 3) := by show _ ≠ _; omega
        clear h0
        have hset := set_like wr d M L o.key o.v hk HP2.out.dat hl (by omega)
        cases hat : atOf o.key L with
        | some i =>
          obtain ⟨hi, hki⟩ := HKEY.out i hat
          have hI : atI o.key L = (i : Int) := by unfold atI; rw [hat]
          rw [hI]
          rw [hat] at hset
          have HSET := Lib.hid hset
          have hsl : setL L o.key o.v = L.set i (L[i].1, o.v) := by unfold setL; rw [hat, hki]
          have HSL := Lib.hid hsl
          have hne : L ≠ [] := by intro e; rw [e] at hi; simp at hi
          obtain ⟨g, cap', e, hnc, hcm, hBg, hc, hfz⟩ := rowE_cells hrow2 hne
          cases e
          have c2 := (hc i hi).2
          have hz := hfz (i * 2 + 1)
          have hgd := HP2.out.dis g rfl
          have HG := Lib.hid hgd
          clear hset hsl hI hat hki hc hfz hgd hne hrow hrow2
          go_wp2_with fail
          refine HSET.out.mono ?_
          rintro e w2 ⟨rfl, M', T, L', lit, sd⟩
          have b3' := T.fr.cell b3 HSB.out
          have c2' := T.fr.cell c2 HG.out
          have P3 := HP2.out.turn T
          have fz : w2.frozen? ⟨g, i * 2 + 1, none⟩ = false := by
            obtain ⟨g', cap', e, _, _, _, _, hfz⟩ := rowE_cells P3.row (by intro e; rw [e] at hi; simp at hi)
            cases e; exact hfz _
          have HT := Lib.hid T
          have HP3 := Lib.hid P3
          have HL' := Lib.hid L'
          have HLT := Lib.hid lit
          have HSD := Lib.hid sd
          clear b1 b3 b4 c2 hz T P3 L' lit sd
          go_wp2
          go_ret2
          refine ⟨_, M', rfl, ?_, by rw [H0.out]; exact HL'.out, ?_, HSD.out, fun _ => HLT.out, fun h => absurd h HN3.out, fun h => absurd h (by have := H3.out; omega), (HTN.out _ _ HT.out).thenSet ⟨g, i * 2 + 1, none⟩ _ (fun _ => .inr rfl), fun _ h => .inl h⟩
          · rw [H0.out, HSL.out]
            exact HP3.out.newRow (Fr.setCell w2 ⟨g, i * 2 + 1, none⟩ _) (fun k hk e => HP3.out.dis g rfl (by rw [← (show k = g from e)]; exact hk)) (rowE_setV HP3.out.row rfl i hi o.v)
          · exact (HBW.out.trans (HT.out.fr.below HP2.out.le HP2.out.base)).setCell hBg _
        | none =>
          have hI : atI o.key L = -1 := by unfold atI; rw [hat]
          rw [hI]
          rw [hat] at hset
          have HSET := Lib.hid hset
          have hsl : setL L o.key o.v = L ++ [(o.key, o.v)] := by unfold setL; rw [hat]
          have HSL := Lib.hid hsl
          obtain ⟨i0, hi, hz0, hz1, hz2⟩ := info_parts infoEn
          clear hset hsl hI hat hrow hrow2
          go_wp2_with fail
          refine HSET.out.mono ?_
          rintro e w2 ⟨rfl, M', T, L', lit, sd⟩
          have b3' := T.fr.cell b3 HSB.out
          have b4' := T.fr.cell b4 HSB.out
          have P3 := HP2.out.turn T
          have HT := Lib.hid T
          have HP3 := Lib.hid P3
          have HL' := Lib.hid L'
          have HLT := Lib.hid lit
          have HSD := Lib.hid sd
          clear b1 b3 b4 T P3 L' lit sd
          go_wp2_with (at_builtin; refine wpList_append_own_at _ rfl (.tmp 50) (.tmp 56) 39 rfl B 54 i0 (.agg #[.string ⟨#[]⟩, .int .i64 0]) 2 24 Try.underlying39 hi hz0 hz1 hz2 rfl (by decide) _ L.length _ rfl (HP3.out.row.alloc _) ⟨w2.heap.size, 0, none⟩ 1 1 (enCells (o.key, o.v)) rfl rfl lit_at (by simp [enCells, Value.oneCell']) (by unfold maxLen; omega) (by omega) (by have := HP3.out.le; simp; omega) ?_; intro v' w3 hown hgrow _ hat'; obtain ⟨a3, cap3, rfl⟩ := owns_slice hown; have HO := Lib.hid hown; have HGR := Lib.hid hgrow; have HOWN := Lib.hid hat'; clear hown hgrow hat')
          go_ret2
          have hF : Fr (fun k => (Value.slice a L.length cap).ownBlock = some k) w2 w3 := (Fr.alloc (fun k => (Value.slice a L.length cap).ownBlock = some k) w2 _).trans (Fr.of_grownBy HGR.out) (fun i hi _ => hi)
          refine ⟨_, M', rfl, ?_, by rw [H0.out]; exact HL'.out, ?_, HSD.out, fun _ => HLT.out, fun h => absurd h HN3.out, fun h => absurd h (by have := H3.out; omega), (HTN.out _ _ HT.out).trans (hF.mono (fun i h _ => Or.inr (a := Bs (dictL d M) i) h)) (fun i h _ => h), fun gg hgg => HOWN.out.elim (fun e => .inl (e.symm.trans hgg)) (fun e => .inr (by have h1 := Option.some.inj (e.symm.trans hgg); have := (HTN.out _ _ HT.out).size; rw [← h1]; simp; omega))⟩
          · rw [H0.out, HSL.out]
            refine HP3.out.newRow hF (fun k hk e => HP3.out.dis k e hk) ?_
            have := HO.out
            rw [show L.flatMap enCells ++ enCells (o.key, o.v) = (L ++ [(o.key, o.v)]).flatMap enCells by simp] at this
            have e : (L ++ [(o.key, o.v)]).length = L.length + 1 := by simp
            unfold RowE
            rw [e]
            exact this
          · exact (HBW.out.trans (HT.out.fr.below HP2.out.le HP2.out.base)).trans (hF.below HP3.out.le (fun k hk => (HP3.out.row.lt k hk).1))
      by_cases h1 : o.do_ = 1
      · rw [h1] at b1
        have H0 : Hid (doesL o L = L) := by show _ = _; unfold doesL; rw [if_neg h0, if_neg (by omega), if_neg (by omega)]
        have H3 : Hid (¬ 3 < o.do_) := by show ¬ _; omega
        have HN3 : Hid (o.do_ ≠ 3) := by show _ ≠ _; omega
        clear h0 h1
        have hget := get_like wr d M L o.key hk HP2.out.dat hl
        cases hat : atOf o.key L with
        | some i =>
          obtain ⟨hi, hki⟩ := HKEY.out i hat
          have hI : atI o.key L = (i : Int) := by unfold atI; rw [hat]
          have hv : valOf L o.key = L[i].2 := by unfold valOf; rw [hat]; show (L.getD i (o.key, 0)).2 = _; rw [List.getD_eq_getElem?_getD, List.getElem?_eq_getElem hi]; rfl
          rw [hI]
          rw [hat, hv] at hget
          have hne : L ≠ [] := by intro e; rw [e] at hi; simp at hi
          obtain ⟨g, cap', e, hnc, hcm, hBg, hc, hfz⟩ := rowE_cells hrow2 hne
          cases e
          have c2 := (hc i hi).2
          obtain ⟨x, hx⟩ : ∃ x, L[i].2 = x := ⟨_, rfl⟩
          rw [hx] at hget c2
          have HGET := Lib.hid hget
          have HG := Lib.hid (HP2.out.dis g rfl)
          clear hget hI hat hki hc hfz hne hrow hrow2 hv hx
          go_wp2_with fail
          refine HGET.out.mono ?_
          rintro e w2 ⟨rfl, M', T, L', lit, sd⟩
          have c2' := T.fr.cell c2 HG.out
          have HT := Lib.hid T
          have HL' := Lib.hid L'
          have HLT := Lib.hid lit
          have HSD := Lib.hid sd
          clear b1 b3 b4 c2 T L' lit sd
          go_wp2
          go_ret2
          refine ⟨_, M', rfl, ?_, by rw [H0.out]; exact HL'.out, ?_, HSD.out, fun _ => HLT.out, fun h => absurd h HN3.out, fun h => absurd h (by have := H3.out; omega), HTN.out _ _ HT.out, fun _ h => .inl h⟩
          · rw [H0.out]; exact HP2.out.turn HT.out
          · exact HBW.out.trans (HT.out.fr.below HP2.out.le HP2.out.base)
        | none =>
          have hI : atI o.key L = -1 := by unfold atI; rw [hat]
          have hv : valOf L o.key = 0 := by unfold valOf; rw [hat]
          rw [hI]
          rw [hat, hv] at hget
          have HGET := Lib.hid hget
          clear hget hI hat hrow hrow2 hv
          go_wp2_with fail
          refine HGET.out.mono ?_
          rintro e w2 ⟨rfl, M', T, L', lit, sd⟩
          have HT := Lib.hid T
          have HL' := Lib.hid L'
          have HLT := Lib.hid lit
          have HSD := Lib.hid sd
          clear b1 b3 b4 T L' lit sd
          go_wp2
          go_ret2
          refine ⟨_, M', rfl, ?_, by rw [H0.out]; exact HL'.out, ?_, HSD.out, fun _ => HLT.out, fun h => absurd h HN3.out, fun h => absurd h (by have := H3.out; omega), HTN.out _ _ HT.out, fun _ h => .inl h⟩
          · rw [H0.out]; exact HP2.out.turn HT.out
          · exact HBW.out.trans (HT.out.fr.below HP2.out.le HP2.out.base)
      by_cases h2 : o.do_ = 2
      · rw [h2] at b1
        have H0 : Hid (doesL o L = delL L o.key) := by show _ = _; unfold doesL; rw [if_neg h0, if_pos h2]
        have H3 : Hid (¬ 3 < o.do_) := by show ¬ _; omega
        have HN3 : Hid (o.do_ ≠ 3) := by show _ ≠ _; omega
        clear h0 h1 h2
        have hdel := del_like wr d M L o.key hk HP2.out.dat hl (by omega)
        cases hat : atOf o.key L with
        | some i =>
          obtain ⟨hi, hki⟩ := HKEY.out i hat
          have hI : atI o.key L = (i : Int) := by unfold atI; rw [hat]
          rw [hI]
          rw [hat] at hdel
          have hne : L ≠ [] := by intro e; rw [e] at hi; simp at hi
          have hdl : delL L o.key = (L.set i (L[L.length - 1]'(by omega))).dropLast := by
            unfold delL; rw [hat]; show (L.set i (L.getD (L.length - 1) (o.key, 0))).dropLast = _; rw [List.getD_eq_getElem?_getD, List.getElem?_eq_getElem (by omega)]; rfl
          have HDL := Lib.hid hdl
          obtain ⟨g, cap', e, hnc, hcm, hBg, hc, hfz⟩ := rowE_cells hrow2 hne
          cases e
          obtain ⟨c1, c2⟩ := hc (L.length - 1) (by omega)
          obtain ⟨d1, d2⟩ := hc i hi
          obtain ⟨x, hx⟩ : ∃ x, L[L.length - 1]'(by omega) = x := ⟨_, rfl⟩
          rw [hx] at c1 c2 HDL
          have HDEL := Lib.hid hdel
          have HG := Lib.hid (HP2.out.dis g rfl)
          have hz1 := hfz (i * 2)
          have hz2 := hfz (i * 2 + 1)
          have hln : (1 : Int) ≤ (L.length : Int) := by omega
          clear hdel hI hat hki hc hfz hne hrow hrow2 hx hdl
          go_wp2_with fail
          refine HDEL.out.mono ?_
          rintro e w2 ⟨rfl, M', T, L', lit, sd⟩
          have c1' := T.fr.cell c1 HG.out
          have c2' := T.fr.cell c2 HG.out
          have d1' := T.fr.cell d1 HG.out
          have d2' := T.fr.cell d2 HG.out
          have P3 := HP2.out.turn T
          have fz : ∀ j, w2.frozen? ⟨g, j, none⟩ = false := by
            obtain ⟨g', cap', e, _, _, _, _, hfz⟩ := rowE_cells P3.row (by intro e; rw [e] at hi; simp at hi)
            cases e; exact hfz
          have HT := Lib.hid T
          have HP3 := Lib.hid P3
          have HL' := Lib.hid L'
          have HLT := Lib.hid lit
          have HSD := Lib.hid sd
          clear b1 b3 b4 T L' lit sd c1 c2 d1 d2 hz1 hz2 P3
          go_wp2
          go_ret2
          refine ⟨_, M', rfl, ?_, by rw [H0.out]; exact HL'.out, ?_, HSD.out, fun _ => HLT.out, fun h => absurd h HN3.out, fun h => absurd h (by have := H3.out; omega), ((HTN.out _ _ HT.out).thenSet ⟨g, i * 2, none⟩ _ (fun _ => .inr rfl)).thenSet ⟨g, i * 2 + 1, none⟩ _ (fun _ => .inr rfl), fun _ h => .inl h⟩
          · rw [H0.out, HDL.out]
            have hF : Fr (fun k => k = g) w2 ((w2.setCell ⟨g, i * 2, none⟩ (.string x.1)).setCell ⟨g, i * 2 + 1, none⟩ (.int .i64 x.2)) := (Fr.setCell w2 ⟨g, i * 2, none⟩ _).thenSet _ _ (fun _ => rfl)
            have hR := rowE_cut (rowE_put HP3.out.row rfl i hi x) (by rw [List.length_set])
            exact HP3.out.newRow hF (fun k hk e => HP3.out.dis g rfl (by rw [← e]; exact hk)) hR
          · exact ((HBW.out.trans (HT.out.fr.below HP2.out.le HP2.out.base)).setCell hBg _).setCell hBg _
        | none =>
          have hI : atI o.key L = -1 := by unfold atI; rw [hat]
          have hdl : delL L o.key = L := by unfold delL; rw [hat]
          rw [hI]
          rw [hat] at hdel
          have HDEL := Lib.hid hdel
          have HDL := Lib.hid hdl
          clear hdel hI hat hrow hrow2 hdl
          go_wp2_with fail
          refine HDEL.out.mono ?_
          rintro e w2 ⟨rfl, M', T, L', lit, sd⟩
          have HT := Lib.hid T
          have HL' := Lib.hid L'
          have HLT := Lib.hid lit
          have HSD := Lib.hid sd
          clear b1 b3 b4 T L' lit sd
          go_wp2
          go_ret2
          refine ⟨_, M', rfl, ?_, by rw [H0.out]; exact HL'.out, ?_, HSD.out, fun _ => HLT.out, fun h => absurd h HN3.out, fun h => absurd h (by have := H3.out; omega), HTN.out _ _ HT.out, fun _ h => .inl h⟩
          · rw [H0.out, HDL.out]; exact HP2.out.turn HT.out
          · exact HBW.out.trans (HT.out.fr.below HP2.out.le HP2.out.base)
      by_cases h3 : o.do_ = 3
      · rw [h3] at b1
        have H0 : Hid (doesL o L = []) := by show _ = _; unfold doesL; rw [if_neg h0, if_neg h2, if_pos h3]
        have HD3 : Hid (o.do_ = 3) := h3
        have HCL := Lib.hid (clear_like wr d M HP2.out.dat)
        clear h0 h1 h2 h3 hrow hrow2
        go_wp2_with fail
        refine HCL.out.mono ?_
        rintro e w2 ⟨rfl, M', T, L', sd, at0⟩
        have HAT0 := Lib.hid at0
        have HLEN := Lib.hid (len_like w2 d M' [] 0 T.at_ L' (by decide) rfl)
        have HT := Lib.hid T
        have HL' := Lib.hid L'
        have HSD := Lib.hid sd
        clear b1 b3 b4 T L' sd at0
        go_wp2_with fail
        refine HLEN.out.mono ?_
        rintro e w' ⟨rfl, rfl⟩
        go_wp2
        go_ret2
        refine ⟨_, M', rfl, ?_, by rw [H0.out]; exact HL'.out, ?_, HSD.out, fun h => absurd HD3.out h, fun _ => HAT0.out, fun h => absurd h (by rw [HD3.out]; omega), HTN.out _ _ HT.out, (fun gg hgg => by cases hgg)⟩
        · rw [H0.out]; exact (HP2.out.turn HT.out).noRow
        · exact HBW.out.trans (HT.out.fr.below HP2.out.le HP2.out.base)
      · have H0 : Hid (doesL o L = L) := by show _ = _; unfold doesL; rw [if_neg h0, if_neg h2, if_neg h3]
        have g0 : (o.do_ == 0) = false := beq_eq_false_iff_ne.2 h0
        have g1 : (o.do_ == 1) = false := beq_eq_false_iff_ne.2 h1
        have g2 : (o.do_ == 2) = false := beq_eq_false_iff_ne.2 h2
        have g3 : (o.do_ == 3) = false := beq_eq_false_iff_ne.2 h3
        have HN3 : Hid (o.do_ ≠ 3) := h3
        have HLEN := Lib.hid (len_like wr d M L L.length HP2.out.dat hl (by omega) rfl)
        have HL := Lib.hid hl
        clear hrow hrow2 b3 b4
        go_wp2_with fail
        refine HLEN.out.mono ?_
        rintro e w' ⟨rfl, rfl⟩
        go_wp2
        go_ret2
        refine ⟨_, M, rfl, by rw [H0.out]; exact HP2.out, by rw [H0.out]; exact HL.out, HBW.out, SL.refl _, fun _ => ?_, fun h => absurd h HN3.out, fun _ => rfl, HFS.out, fun _ h => .inl h⟩
        exact ⟨fun _ _ _ => ⟨Nat.le_refl _, by omega⟩, fun hy => HL.out.inv.still hy⟩
theorem does_any (w : World) (d : Nat) (M : DM) (L : Pl) (v : Value) (o : Sp) (B : Nat) (hl : Like M L) (hn : L.length < 5864062014000) (hk : o.key.size ≤ maxLen) (hp : Pr B w d M v L) :
    Calls Try.prog 28 #[.pointer (some ⟨d, 0, none⟩), v, spVal o] w (DoesPost B w d M v L o) :=
  (does_any2 w d M L v o B hl hn hk hp).mono fun _ _ ⟨v', M', h1, h2, h3, h4, h5, h6, h7, h8, h9, _⟩ => ⟨v', M', h1, h2, h3, h4, h5, h6, h7, h8, h9⟩
end Go.Proofs.Ytkecipdonamjaaa
