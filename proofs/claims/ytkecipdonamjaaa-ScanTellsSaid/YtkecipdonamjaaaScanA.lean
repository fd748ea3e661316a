/- The walk of scan.Next's inner function 'bucket' (for a dict of whole numbers): a bucket's keys go behind those that are told. No condition. -/
import Derived.Test.YtkecipdonamjaaaDrawn
import Derived.Deep.RegionHeld3
import Derived.Deep.RegionLaw
namespace Go.Proofs.Ytkecipdonamjaaa
open Go.RowKit Di
/-- append, at a step of a region that draws its order, from whatever slice -/
theorem step_append {P : Program} {w : World} {ops : Array Oper} {o : Oper} {a : Act} {K : Act → World → Prop} {Q : Exit → Act → World → Prop} {E : Prop} (hgd : o.guard = none) (s x : Operand) (t : TypeId)
    (ho : o.op = .call { callee := .builtin .append, args := #[s, x], argTypes := #[t, t] })
    (base : Nat) (e : TypeId) (i : TypeInfo) (z : Value) (size bytes : Nat) (ht : P.underlying t = some (.slice e)) (hi : P.info? e = some i) (hz : i.zero = some z)
    (hsize : i.size = size) (hby : i.bytes = bytes) (hzs : z.cells.size = size) (hsz : 0 < size)
    (v : Value) (n : Nat) (xs : List Value) (hs : a.eval s = v) (hown : w.ownsRow base e size v n xs)
    (xv : Value) (m : Nat) (news : List Value) (hx : a.eval x = xv) (hrd : RdC w size xv m news) (h1 : ∀ u ∈ news, u.oneCell' = true)
    (h63 : n + m ≤ maxLen) (hbytes : (n + m) * bytes ≤ 140737488355328) (hbase : base ≤ w.heap.size)
    (h : ∀ v' w', w'.ownsRow base e size v' (n + m) (xs ++ news) → w.grownBy w' v.ownBlock → K (a.put o.dst v') w') :
    if Region.wanted o (yielded ops a.tmps) = true then Oper.wp P o a w K Q else E := by
  have hw : Region.wanted o (yielded ops a.tmps) = true := by simp [Region.wanted, hgd]
  rw [if_pos hw]
  obtain ⟨hl, ad, cap, hxv, hmc, hcm, hnil, hcells⟩ := hrd
  cases ad with
  | some ad => exact wp_append_own w s x t ho base e i z size bytes ht hi hz hsize hby hzs hsz v n xs hs hown ad m cap news (hx.trans hxv) hl (hcells ad rfl) h1 h63 hbytes hbase fun v' w' h2 h3 _ => h v' w' h2 h3
  | none =>
    obtain ⟨rfl, rfl⟩ := hnil rfl
    have hn0 : news = [] := by simpa using hl
    subst hn0
    have hrun := run_append_owned_none (P := P) (w := w) (base := base) t o.type e i size ht hi v n xs hown
    have hg := h v w (by simpa using hown) ⟨rfl, rfl, rfl, Nat.le_refl _, fun _ _ _ => rfl⟩
    have he : a.eval x = .slice none 0 0 := hx.trans hxv
    unfold Oper.wp
    simp [execOp, ho, resolve, invoke, builtin, hs, he, hrun, Result.andThen]
    exact hg
/-- a block of one cell -/
def Bx (w : World) (b : Nat) (t : TypeId) (v : Value) : Prop := w.heap[b]? = some (.cells #[v] t (0, 0))
theorem Bx.cell {w : World} {b : Nat} {t : TypeId} {v : Value} (h : Bx w b t v) : w.cell? ⟨b, 0, none⟩ = some v := by rw [cell_of_blk h]; rfl
theorem Bx.free {w : World} {b : Nat} {t : TypeId} {v : Value} (h : Bx w b t v) : w.frozen? ⟨b, 0, none⟩ = false := free_of_blk h 0
theorem Bx.lt {w : World} {b : Nat} {t : TypeId} {v : Value} (h : Bx w b t v) : b < w.heap.size := (Array.getElem?_eq_some_iff.1 h).1
theorem Bx.fr {w w' : World} {b : Nat} {t : TypeId} {v : Value} (h : Bx w b t v) {S : Nat → Prop} (hf : Fr S w w') (hd : ¬ S b) : Bx w' b t v := (hf.block b h.lt hd).trans h
theorem Bx.set {w : World} {b : Nat} {t : TypeId} {v : Value} (h : Bx w b t v) (u : Value) : Bx (w.setCell ⟨b, 0, none⟩ u) b t u := heap_setCell_same w b 0 _ _ _ h
/-- a box is not a row of elements of another type -/
theorem Bx.not_row {w : World} {b : Nat} {t e : TypeId} {u : Value} (h : Bx w b t u) (hte : t ≠ e) {base size k : Nat} {v : Value} {xs : List Value} (hr : w.ownsRow base e size v k xs) : ¬ v.ownBlock = some b := by
  intro hg
  rcases hr.2 with ⟨rfl, _⟩ | ⟨g, cap, cur, rfl, _, hgb, _⟩
  · cases hg
  · cases hg
    have := Eq.trans (Eq.symm h) hgb
    simp only [Option.some.injEq, Obj.cells.injEq] at this
    exact hte this.2.1
/-- what scanning keeps: the dict as it was; the keys that were told, the dict's pointer and the cursor, each in a box of its own -/
structure Sc (w0 : World) (w : World) (d : Nat) (M : DM) (kb db cb : Nat) (c : UInt64) (v : Value) (S : List ByteArray) : Prop where
  kk : Bx w kb 47 v
  row : RowS w0.heap.size w v S
  dd : Bx w db 29 (.pointer (some ⟨d, 0, none⟩))
  cc : Bx w cb 22 (.int .u64 (wd c))
  dat : DAt w0 d M
  fr : Fr (fun _ => False) w0 w
  lk : w0.heap.size ≤ kb
  lc : w0.heap.size ≤ cb
section
variable {w0 w w' : World} {d : Nat} {M : DM} {kb db cb : Nat} {c : UInt64} {v : Value} {S : List ByteArray}
theorem Sc.now (h : Sc w0 w d M kb db cb c v S) : DAt w d M := h.dat.fr h.fr (fun _ _ h => h)
theorem Sc.quiet (h : Sc w0 w d M kb db cb c v S) (hf : Fr (fun _ => False) w w') : Sc w0 w' d M kb db cb c v S :=
  ⟨h.kk.fr hf (fun h => h), owns_fr h.row hf (fun _ _ h => h), h.dd.fr hf (fun h => h), h.cc.fr hf (fun h => h), h.dat, h.fr.trans hf (fun _ h _ => h), h.lk, h.lc⟩
theorem Sc.below (h : Sc w0 w d M kb db cb c v S) (hb : Below w.heap.size w w') : Sc w0 w' d M kb db cb c v S :=
  h.quiet ⟨hb.os, hb.tape, hb.output, hb.size, fun k hk _ => hb.block k hk⟩
end
theorem Sc.grown {w0 w w' : World} {d : Nat} {M : DM} {kb db cb : Nat} {c : UInt64} {v : Value} {S : List ByteArray} (h : Sc w0 w d M kb db cb c v S) (hg : w.grownBy w' v.ownBlock) {v' : Value} {n : Nat} {xs : List Value} (_ : w'.ownsRow w0.heap.size 9 1 v' n xs) :
    Bx w' kb 47 v ∧ Bx w' db 29 (.pointer (some ⟨d, 0, none⟩)) ∧ Bx w' cb 22 (.int .u64 (wd c)) ∧ Fr (fun _ => False) w0 w' := by
  have hf := Fr.of_grownBy hg
  refine ⟨h.kk.fr hf (h.kk.not_row (by decide) h.row), h.dd.fr hf (h.dd.not_row (by decide) h.row), h.cc.fr hf (h.cc.not_row (by decide) h.row), h.fr.trans hf (fun i hi hl => by have := (h.row.lt i hi).1; omega)⟩
/-- the keys grown, and stored back -/
theorem Sc.put {w0 w w' : World} {d : Nat} {M : DM} {kb db cb : Nat} {c : UInt64} {v : Value} {S S' : List ByteArray} (h : Sc w0 w d M kb db cb c v S) (hg : w.grownBy w' v.ownBlock) {v' : Value} (hr : RowS w0.heap.size w' v' S') :
    Sc w0 (w'.setCell ⟨kb, 0, none⟩ v') d M kb db cb c v' S' := by
  obtain ⟨g1, g2, g3, g4⟩ := h.grown hg hr
  have hs := Fr.setCell w' ⟨kb, 0, none⟩ v'
  have hdk : db ≠ kb := by
    intro e
    have h1 := h.dd
    rw [e] at h1
    have := Eq.trans (Eq.symm h1) h.kk
    simp only [Option.some.injEq, Obj.cells.injEq] at this
    exact absurd this.2.1 (by decide)
  have hck : cb ≠ kb := by
    intro e
    have h1 := h.cc
    rw [e] at h1
    have := Eq.trans (Eq.symm h1) h.kk
    simp only [Option.some.injEq, Obj.cells.injEq] at this
    exact absurd this.2.1 (by decide)
  refine ⟨g1.set v', owns_fr hr hs (fun g hgv e => g1.not_row (by decide) hr (by rw [hgv]; exact congrArg some e)), g2.fr hs hdk, g3.fr hs hck, h.dat, g4.trans hs (fun i hi hl => by have h1 := h.lk; have h2 : i = kb := hi; omega), h.lk, h.lc⟩
theorem rowS_app {B : Nat} {w : World} {v : Value} {S K : List ByteArray} (h : w.ownsRow B 9 1 v (S.length + K.length) (S.map .string ++ K.map .string)) : RowS B w v (S ++ K) := by
  show World.ownsRow _ _ _ _ _ _ _
  rw [List.length_append, List.map_append]
  exact h
/-- the cursor stored -/
theorem Sc.setc {w0 w : World} {d : Nat} {M : DM} {kb db cb : Nat} {c : UInt64} {v : Value} {S : List ByteArray} (h : Sc w0 w d M kb db cb c v S) (c' : UInt64) (n : Int) (hn : n = wd c') : Sc w0 (w.setCell ⟨cb, 0, none⟩ (.int .u64 n)) d M kb db cb c' v S := by
  subst hn
  have hs := Fr.setCell w ⟨cb, 0, none⟩ (.int .u64 (wd c'))
  have hkc : kb ≠ cb := by
    intro e
    have h1 := h.kk
    rw [e] at h1
    have := Eq.trans (Eq.symm h1) h.cc
    simp only [Option.some.injEq, Obj.cells.injEq] at this
    exact absurd this.2.1 (by decide)
  have hdc : db ≠ cb := by
    intro e
    have h1 := h.dd
    rw [e] at h1
    have := Eq.trans (Eq.symm h1) h.cc
    simp only [Option.some.injEq, Obj.cells.injEq] at this
    exact absurd this.2.1 (by decide)
  exact ⟨h.kk.fr hs hkc, owns_fr h.row hs (fun g hgv e => h.cc.not_row (by decide) h.row (by rw [hgv]; exact congrArg some e)), h.dd.fr hs hdc, h.cc.set _, h.dat, h.fr.trans hs (fun i hi hl => by have h1 := h.lc; have h2 : i = cb := hi; omega), h.lk, h.lc⟩
theorem bucketK_len {M : DM} (h : Inv M) (table i : Int) : (bucketK M table i).length ≤ M.n := by
  unfold bucketK
  split
  · rw [List.length_map, h.count]
    cases hc : (tabOf M table)[i.toNat]? with
    | none => simp
    | some c =>
      have h1 := (List.sublist_flatten_of_mem (List.mem_of_getElem? hc)).length_le
      have h2 : (tabOf M table).flatten.length ≤ (entries M).length := by
        unfold tabOf entries
        split <;> simp
      simp only [Option.getD_some]
      omega
  · simp
set_option maxRecDepth 100000 in
set_option maxHeartbeats 4000000 in
theorem bk_any (w0 w : World) (d : Nat) (M : DM) (kb db cb : Nat) (c : UInt64) (v : Value) (S : List ByteArray) (table n : Int) (h : Sc w0 w d M kb db cb c v S) (hn : 0 < n) (hn2 : n ≤ 35184372088832) (hc : M.n ≤ 4398046511104) (hS : S.length ≤ 4398046511104) :
    Calls Try.prog 92 #[.int .i64 table, .int .i64 n, .pointer (some ⟨kb, 0, none⟩), .pointer (some ⟨db, 0, none⟩), .pointer (some ⟨cb, 0, none⟩)] w fun e w' =>
      e = .returned (.tuple #[]) ∧ ∃ v', Sc w0 w' d M kb db cb c v' (S ++ bucketK M table ((c.toNat % n.toNat : Nat) : Int)) := by
  have HS := Lib.hid h
  have k1 := h.kk.cell
  have k2 := h.dd.cell
  have k3 := h.cc.cell
  have z1 := h.kk.free
  have hu : IntKind.u64.wrap n = n := IntWalk.u64_in _ (by omega)
  have hc8 := c.toNat_lt
  obtain ⟨N, rfl⟩ := Int.eq_ofNat_of_zero_le (Int.le_of_lt hn)
  have hN : 0 < N := by omega
  rw [Int.toNat_natCast]
  have hm : (wd c).tmod (N : Int) = ((c.toNat % N : Nat) : Int) := by
    show (((c.toNat : Nat) : Int)).tmod (N : Int) = _
    rw [← Int.ofNat_tmod]
  obtain ⟨q, hq⟩ : ∃ q, c.toNat % N = q := ⟨_, rfl⟩
  have hqN : q < N := by rw [← hq]; exact Nat.mod_lt _ hN
  rw [hq] at hm ⊢
  have hq2 : IntKind.i64.wrap (q : Int) = (q : Int) := IntWalk.i64_in _ (by omega)
  have hNz : ((N : Int) == 0) = false := beq_eq_false_iff_ne.2 (by omega)
  have hN0 : ¬ N = 0 := by omega
  have hN1 : ¬ (N : Int) = 0 := by omega
  obtain ⟨i0, hi, hz0, hz1, hz2⟩ := info_parts info_str
  have HI := Lib.hid hi
  have HZ0 := Lib.hid hz0
  have HZ1 := Lib.hid hz1
  have HZ2 := Lib.hid hz2
  clear hi hz0 hz1 hz2 hq h
  go_enter Try.func92, Try.ntmps92
  have HB0 := Lib.hid (fun (W : World) (h : Sc w0 W d M kb db cb c v S) => Di.bucket_any W d M table (q : Int) h.now hc)
  have HS1 := Lib.hid (HS.out.quiet (Fr.drew (fun _ => False) w))
  obtain ⟨K, hK⟩ : ∃ K, bucketK M table (q : Int) = K := ⟨_, rfl⟩
  have hKl : K.length ≤ 4398046511104 := by rw [← hK]; exact Nat.le_trans (bucketK_len HS.out.dat.inv table q) hc
  rw [hK] at HB0 ⊢
  clear hK
  go_region_law (first
      | (go_simp; go_at_call 30; ((with_reducible refine (HB0.out _ HS1.out).mono ?_); rintro e w1 ⟨vb, rfl, hr1, hb1⟩; have HS2 := Lib.hid (HS1.out.below hb1); have HR1 := Lib.hid (RdC.of_owns hr1); have j1 := HS2.out.kk.cell; have j2 := HS2.out.dd.cell; have j3 := HS2.out.cc.cell; clear hr1 hb1; dsimp only))
      | (refine step_append (by rfl) (.tmp 7) (.tmp 15) 47 (by rfl) w0.heap.size 9 i0 (.string ⟨#[]⟩) 1 16 Try.underlying47 HI.out HZ0.out HZ1.out HZ2.out rfl (by decide) v S.length _ (by rfl) HS2.out.row vb K.length _ (by rfl) HR1.out (one_strs _) (by unfold maxLen; omega) (by omega) HS2.out.fr.size ?_; intro v2 w2 hown hgrow; obtain ⟨a2, c2, rfl⟩ := owns_slice hown; have HS3 := Lib.hid (HS2.out.grown hgrow hown); have z2 := HS3.out.1.free; have m1 := HS3.out.1.cell; have m2 := HS3.out.2.1.cell; have m3 := HS3.out.2.2.1.cell; have HO := Lib.hid hown; have HG := Lib.hid hgrow; clear hown hgrow))
  all_goals
    refine bodyPost_end (results_none rfl _ _ _) rfl ?_
    exact ⟨rfl, _, HS2.out.put HG.out (rowS_app HO.out)⟩
end Go.Proofs.Ytkecipdonamjaaa
