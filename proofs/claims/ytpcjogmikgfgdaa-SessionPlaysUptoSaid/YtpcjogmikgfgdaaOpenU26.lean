/- A script of pantrylaw26's steps opened with its bulk. No condition. -/
import Derived.Test.YtpcjogmikgfgdaaStep26
import Derived.Test.YtpcjogmikgfgdaaUpto
namespace Go.Proofs.Ytpcjogmikgfgdaa
open Go.ChangeShapes Go.WideShapes Go.ChangeAt Go.RowKit Go.Deep
theorem bulkAll_append {H : Type} (l m : List (DataW H)) : Rows.uptoBulkAll (l ++ m) = Rows.uptoBulkAll l + Rows.uptoBulkAll m := by
  induction l with
  | nil => simp [Rows.uptoBulkAll]
  | cons x l ih => simp only [List.cons_append, Rows.uptoBulkAll]; omega
section
variable {H : Type} {enc : TypeId × Value → H} {P : Program} {w : World} {base : Nat} {held : Bool} {t : TypeId} {d : DataW H} {p : List MemPlace}
/-- a slice opened, each element with its datum -/
theorem open_listS {α : Type} (f : α → Nat) {e : TypeId} {sz : Nat} (cs : α → List Value) (Q : α → DataW H → Prop) (hcs : ∀ x, (cs x).length = sz) (ht : P.underlying t = some (.slice e)) (hc : P.cellsOf e = sz)
    (hel : ∀ (n : Nat) (l : List Value) (y : DataW H × List MemPlace), DataW.trod enc P w base (fun _ => true) held n e l = some y → Wt P e y.1 → ∃ x, l = cs x ∧ Q x y.1 ∧ f x ≤ Rows.uptoBulk y.1)
    {fuel : Nat} {c : Value} (hf : DataW.trod enc P w base (fun _ => true) held fuel t [c] = some (d, p)) (hw : Wt P t d) :
    ∃ l : List α, RdC w sz c l.length (l.flatMap cs) ∧ l.length * P.bytesOf e ≤ reachBytes ∧ (∀ x ∈ l, ∃ d', Q x d') ∧ (l.map f).sum + 1 ≤ Rows.uptoBulk d := by
  rcases Go.Deep.open_slice ht hf with ⟨hcs0, hx⟩ | ⟨a', len', cap', m, n, D, Pl, hcs1, hb, hl, hm, hmm, hx, hi⟩
  · cases List.singleton_inj.1 hcs0
    exact ⟨[], RdC.nil w sz, by simp, (fun x hx => by cases hx), by simpa using bulk_pos d⟩
  · cases List.singleton_inj.1 hcs1
    simp only [if_true] at hmm
    subst hmm
    have hd : d = .slice ((List.range len').map D) ((List.range (m - len')).map fun j => D (len' + j)) := (Prod.mk.injEq .. ▸ hx).1
    unfold Wt at hw
    rw [hd] at hw
    simp only [DataW.weights, ht, List.all_cons, List.all_append, Bool.and_eq_true, decide_eq_true_eq, List.length_map, List.length_range] at hw
    have hall : ∀ k, k ≤ len' → ∃ l : List α, l.length = k ∧ (∀ j u, (l.flatMap cs)[j]? = some u → w.cell? (a'.add j) = some u) ∧ (∀ x ∈ l, ∃ d', Q x d') ∧ (l.map f).sum ≤ Rows.uptoBulkAll ((List.range k).map D) := by
      intro k
      induction k with
      | zero => intro _; exact ⟨[], rfl, fun j u hu => by simp at hu, (fun x hx => by cases hx), by simp⟩
      | succ k ih =>
        intro hk
        obtain ⟨l, hll, hlc, hlq, hls⟩ := ih (by omega)
        obtain ⟨c', hc1, hc2⟩ := hi k (by omega)
        obtain ⟨x, rfl, hq, hfx⟩ := hel n c' _ hc2 (weightsAll_mem (List.mem_map.2 ⟨k, List.mem_range.2 (by omega), rfl⟩) hw.2.1)
        obtain ⟨_, hcl, hat⟩ := World.cells?_some hc1
        refine ⟨l ++ [x], by simp [hll], fun j u hu => ?_, fun y hy => ?_, ?_⟩
        · have hlen : (l.flatMap cs).length = k * sz := by
            rw [List.length_flatMap]
            have : l.map (fun x => (cs x).length) = l.map (fun _ => sz) := List.map_congr_left (fun x _ => hcs x)
            rw [this, List.map_const', List.sum_replicate_nat, hll]
          rw [List.flatMap_append, List.flatMap_singleton, List.getElem?_append] at hu
          split at hu
          · exact hlc j u hu
          · rename_i hge
            have hj : j - k * sz < sz := by
              have := (List.getElem?_eq_some_iff.1 hu).1
              rw [hcs, hlen] at this; exact this
            have h2 := hat (j - k * sz) (by rw [hc]; exact hj)
            rw [hlen] at hu hge
            rw [hc, Go.Deep.add_add, show k * sz + (j - k * sz) = j by omega] at h2
            exact h2.trans hu
        · rcases List.mem_append.1 hy with hy | hy
          · exact hlq y hy
          · rw [List.mem_singleton.1 hy]; exact ⟨_, hq⟩
        · rw [List.range_succ, List.map_append, List.map_append, bulkAll_append, List.sum_append]
          simp only [List.map_cons, List.map_nil, List.sum_cons, List.sum_nil, Rows.uptoBulkAll, Nat.add_zero]
          exact Nat.add_le_add hls hfx
    obtain ⟨l, hll, hlc, hlq, hls⟩ := hall len' (Nat.le_refl _)
    subst hll
    refine ⟨l, ⟨?_, some a', m, rfl, hl, hm, (fun e => by cases e), fun ad had => by cases had; exact hlc⟩, Nat.le_trans (Nat.mul_le_mul_right _ (Nat.le_add_right _ _)) hw.1, hlq, ?_⟩
    · rw [List.length_flatMap]
      have : l.map (fun x => (cs x).length) = l.map (fun _ => sz) := List.map_congr_left (fun x _ => hcs x)
      rw [this, List.map_const', List.sum_replicate_nat]
    · rw [hd]
      simp only [Rows.uptoBulk]
      omega
/-- a struct whose fields are one cell each, each field with its datum's weights -/
theorem struct_readU {spare : Nat → Bool} {fs : Array Field} {fuel : Nat} {cs : List Value} {x : DataW H × List MemPlace} (he : P.underlying t = some (.struct fs)) (hone : oneCellFields P fs = true) (hC : P.cellsOf t = fs.size)
    (h : DataW.trod enc P w base spare held fuel t cs = some x) (hw : Wt P t x.1) :
    cs.length = fs.size ∧ ∀ (j : Nat) (f : Field), fs[j]? = some f → ∃ (v : Value) (n : Nat) (y : DataW H × List MemPlace), cs[j]? = some v ∧ DataW.trod enc P w base spare held n f.type [v] = some y ∧ Wt P f.type y.1 ∧ Rows.uptoBulk y.1 + 1 ≤ Rows.uptoBulk x.1 := by
  obtain ⟨ys, n', hn', hy, hlen, hyl, hf⟩ := DataW.trod_struct he h
  rw [hC] at hlen
  refine ⟨hlen, fun j f hj => ?_⟩
  obtain ⟨ho, hk⟩ := hone_of hone j f hj
  have hjl : j < fs.size := (Array.getElem?_eq_some_iff.1 hj).1
  have h1 := hf j f hj
  rw [ho, hk] at h1
  have hone' : (cs.drop j).take 1 = [cs[j]'(by omega)] := by
    rw [List.drop_eq_getElem_cons (by omega)]
    rfl
  rw [hone'] at h1
  have hys : ys[j]? = some (ys[j]'(by omega)) := List.getElem?_eq_getElem (by omega)
  refine ⟨_, n', _, List.getElem?_eq_getElem (by omega), h1.trans hys, ?_, ?_⟩
  case refine_2 =>
    have hx : x.1 = .agg (ys.map (·.1)) := by rw [hy]
    rw [hx]
    simp only [Rows.uptoBulk]
    have := bulk_part (l := ys.map (·.1)) (List.mem_map_of_mem (f := (·.1)) (List.getElem_mem (show j < ys.length by omega)))
    omega
  have hx : x.1 = .agg (ys.map (·.1)) := by rw [hy]
  unfold Wt at hw
  rw [hx] at hw
  simp only [DataW.weights, he] at hw
  refine weightsEach_at hw j f.type _ ?_ ?_
  · rw [List.getElem?_map, Array.getElem?_toList, hj]; rfl
  · rw [List.getElem?_map, hys]; rfl
theorem open_textsU {e : TypeId} (ht : P.underlying t = some (.slice e)) (he : P.underlying e = some .string) (hc : P.cellsOf e = 1) {fuel : Nat} {c : Value} (hf : DataW.trod enc P w base (fun _ => true) held fuel t [c] = some (d, p)) (hw : Wt P t d) :
    ∃ l : List ByteArray, RdC w 1 c l.length (l.map .string) ∧ l.length * P.bytesOf e ≤ reachBytes ∧ (∀ s ∈ l, s.size ≤ maxLen) ∧ l.length + 1 ≤ Rows.uptoBulk d := by
  obtain ⟨l, h1, h2, h3, h4⟩ := open_listS (fun _ => 1) (fun s : ByteArray => [Value.string s]) (fun s _ => s.size ≤ maxLen) (fun _ => rfl) ht hc (fun n l y h _ => by
    obtain ⟨s, hs, _, hl⟩ := DataW.trod_string he h
    exact ⟨s, hs, hl, bulk_pos _⟩) hf hw
  rw [one_flat] at h1
  refine ⟨l, h1, h2, fun s hs => by (obtain ⟨_, h⟩ := h3 s hs; exact h), ?_⟩
  rw [List.map_const', List.sum_replicate_nat, Nat.mul_one] at h4
  exact h4
end
section
variable {H : Type} {enc : TypeId × Value → H} {w : World} {base : Nat} {held : Bool} {d : DataW H} {p : List MemPlace}
theorem st_readU (n : Nat) (l : List Value) (y : DataW H × List MemPlace) (h : DataW.trod enc Try.prog w base (fun _ => true) held n 43 l = some y) (hw : Wt Try.prog 43 y.1) : ∃ x : St, l = stCells x ∧ StOk w x ∧ x.ws.length + 1 ≤ Rows.uptoBulk y.1 := by
  obtain ⟨hl, hf⟩ := struct_readU Try.underlying43 (by kernel_rfl) (by kernel_rfl) h hw
  match l, hl with
  | [c0, c1, c2, c3], _ =>
    obtain ⟨v0, n0, y0, e0, t0, _, _⟩ := hf 0 _ rfl
    obtain ⟨v1, n1, y1, e1, t1, _, _⟩ := hf 1 _ rfl
    obtain ⟨v2, n2, y2, e2, t2, _, _⟩ := hf 2 _ rfl
    obtain ⟨v3, n3, y3, e3, t3, w3, b3⟩ := hf 3 _ rfl
    cases e0; cases e1; cases e2; cases e3
    obtain ⟨x0, g0, _, _⟩ := DataW.trod_int Try.underlying3 t0
    obtain ⟨x1, g1, _, _⟩ := DataW.trod_int Try.underlying3 t1
    obtain ⟨x2, g2, _, hb⟩ := DataW.trod_int Try.underlying3 t2
    obtain ⟨ws, h1, h2, h3, h4⟩ := open_textsU Try.underlying41 Try.underlying9 (by kernel_rfl) t3 w3
    cases g0; cases g1; cases g2
    have e16 : Try.prog.bytesOf 9 = 16 := by kernel_rfl
    rw [e16] at h2
    exact ⟨⟨x0, x1, x2, c3, ws⟩, rfl, ⟨h1, h2, h3, i64_of hb⟩, by show ws.length + 1 ≤ _; omega⟩
theorem open_script26U {fuel : Nat} {c : Value} (hf : DataW.trod enc Try.prog w base (fun _ => true) held fuel 36 [c] = some (d, p)) (hw : Wt Try.prog 36 d) :
    ∃ l : List St, RdC w 4 c l.length (l.flatMap stCells) ∧ l.length * 48 ≤ 140737488351232 ∧ (∀ o ∈ l, StOk w o) ∧ (l.map fun o => o.ws.length + 1).sum ≤ Rows.uptoBulk d := by
  obtain ⟨l, h1, h2, h3, h4⟩ := open_listS (fun o => o.ws.length + 1) stCells (fun x _ => StOk w x) st_len Try.underlying36 (by kernel_rfl) (fun n l y h hw => by
    obtain ⟨x, e, k1, k2⟩ := st_readU n l y h hw
    exact ⟨x, e, k1, k2⟩) hf hw
  have e : Try.prog.bytesOf 43 = 48 := by kernel_rfl
  rw [e] at h2
  exact ⟨l, h1, h2, fun o ho => by (obtain ⟨_, h⟩ := h3 o ho; exact h), by omega⟩
end
end Go.Proofs.Ytpcjogmikgfgdaa
