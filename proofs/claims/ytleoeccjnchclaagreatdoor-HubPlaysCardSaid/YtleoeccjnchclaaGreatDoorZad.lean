/- Heaplets: a list of blocks and what they hold. No condition but sizes. -/
import Derived.Test.YtleoeccjnchclaaGreatDoorZac
import Derived.Deep.Quiet
namespace Go.Proofs.YtleoeccjnchclaaGreatDoor
open Go.RowKit

theorem Fr.thenDrew {S : Nat → Prop} {w w' : World} (h : Fr S w w') : Fr S w w'.drew := ⟨h.os, h.tape, h.output, h.size, h.block⟩
theorem Fr.thenDrewN {S : Nat → Prop} {w w' : World} (h : Fr S w w') (n : Nat) : Fr S w (w'.drewN n) := ⟨h.os, h.tape, h.output, h.size, h.block⟩
theorem Fr.thenSet {S : Nat → Prop} {w w' : World} (h : Fr S w w') (a : Addr) (v : Value) (ha : a.block < w.heap.size → S a.block) : Fr S w (w'.setCell a v) :=
  h.trans (Fr.setCell w' a v) (fun i hi hl => by subst hi; exact ha hl)
theorem Fr.thenAlloc {S : Nat → Prop} {w w' : World} (h : Fr S w w') (o : Obj) : Fr S w (w'.alloc o) :=
  h.trans (Fr.alloc (fun _ => False) w' o) (fun _ hi _ => False.elim hi)
theorem Fr.wide {S T : Nat → Prop} {a b c : World} (h : Fr S a b) (k : Fr T b c) (hT : ∀ i, T i → S i ∨ a.heap.size ≤ i) : Fr S a c :=
  h.trans k (fun i hi hl => (hT i hi).resolve_right (by omega))
abbrev Hl := List (Nat × Obj)
/-- each block of the list holds what the list says -/
def Rep (w : World) (L : Hl) : Prop := ∀ x ∈ L, w.heap[x.1]? = some x.2
/-- its blocks -/
def Bs (L : Hl) (k : Nat) : Prop := k ∈ L.map (·.1)

theorem Rep.nil (w : World) : Rep w [] := fun x h => by cases h
theorem Rep.cons {w : World} {b : Nat} {o : Obj} {L : Hl} (h : w.heap[b]? = some o) (hL : Rep w L) : Rep w ((b, o) :: L) := by
  intro x hx
  rcases List.mem_cons.1 hx with rfl | hx
  · exact h
  · exact hL x hx
theorem Rep.head {w : World} {b : Nat} {o : Obj} {L : Hl} (h : Rep w ((b, o) :: L)) : w.heap[b]? = some o := h (b, o) (by simp)
theorem Rep.tail {w : World} {x : Nat × Obj} {L : Hl} (h : Rep w (x :: L)) : Rep w L := fun y hy => h y (by simp [hy])
theorem Rep.append {w : World} {L M : Hl} (h : Rep w L) (k : Rep w M) : Rep w (L ++ M) := by
  intro x hx
  rcases List.mem_append.1 hx with hx | hx
  · exact h x hx
  · exact k x hx
theorem Rep.left {w : World} {L M : Hl} (h : Rep w (L ++ M)) : Rep w L := fun x hx => h x (by simp [hx])
theorem Rep.right {w : World} {L M : Hl} (h : Rep w (L ++ M)) : Rep w M := fun x hx => h x (by simp [hx])
theorem Rep.sub {w : World} {L M : Hl} (h : Rep w L) (hs : ∀ x ∈ M, x ∈ L) : Rep w M := fun x hx => h x (hs x hx)
theorem Rep.perm {w : World} {L M : Hl} (h : Rep w L) (hp : L.Perm M) : Rep w M := fun x hx => h x (hp.mem_iff.2 hx)
theorem Rep.lt {w : World} {L : Hl} (h : Rep w L) {k : Nat} (hk : Bs L k) : k < w.heap.size := by
  obtain ⟨x, hx, rfl⟩ := List.mem_map.1 hk
  exact (Array.getElem?_eq_some_iff.1 (h x hx)).1
theorem Rep.fr {w w' : World} {L : Hl} {S : Nat → Prop} (h : Rep w L) (hf : Fr S w w') (hd : ∀ k, Bs L k → ¬ S k) : Rep w' L := fun x hx =>
  (hf.block x.1 (h.lt (List.mem_map.2 ⟨x, hx, rfl⟩)) (hd _ (List.mem_map.2 ⟨x, hx, rfl⟩))).trans (h x hx)
theorem Rep.alloc {w : World} {L : Hl} (h : Rep w L) (o : Obj) : Rep (w.alloc o) L :=
  h.fr (Fr.alloc (fun _ => False) w o) (fun _ _ hk => hk)
theorem Rep.drew {w : World} {L : Hl} (h : Rep w L) : Rep w.drew L := h.fr (Fr.drew (fun _ => False) w) (fun _ _ hk => hk)
/-- a store into a block that is not listed -/
theorem Rep.setOther {w : World} {L : Hl} (h : Rep w L) (a : Addr) (v : Value) (hd : ¬ Bs L a.block) : Rep (w.setCell a v) L :=
  h.fr (Fr.setCell w a v) (fun k hk e => hd (e ▸ hk))
/-- a store into the first block of the list -/
theorem Rep.setHead {w : World} {b : Nat} {cs : Array Value} {t : TypeId} {L : Hl} (h : Rep w ((b, .cells cs t (0, 0)) :: L)) (i : Nat) (v : Value) (hd : ¬ Bs L b) :
    Rep (w.setCell ⟨b, i, none⟩ v) ((b, .cells (cs.setIfInBounds i v) t (0, 0)) :: L) :=
  Rep.cons (heap_setCell_same w b i cs t v h.head) (h.tail.setOther ⟨b, i, none⟩ v hd)
theorem cell_of_blk {w : World} {b : Nat} {cs : Array Value} {t : TypeId} (h : w.heap[b]? = some (.cells cs t (0, 0))) (i : Nat) : w.cell? ⟨b, i, none⟩ = cs[i]? := cell_of_row w b i cs t (0, 0) h
theorem free_of_blk {w : World} {b : Nat} {cs : Array Value} {t : TypeId} (h : w.heap[b]? = some (.cells cs t (0, 0))) (i : Nat) : w.frozen? ⟨b, i, none⟩ = false := frozen_of_row w b i cs t h

theorem Bs.cons_iff {b k : Nat} {o : Obj} {L : Hl} : Bs ((b, o) :: L) k ↔ k = b ∨ Bs L k := by simp [Bs]
theorem Bs.append_iff {k : Nat} {L M : Hl} : Bs (L ++ M) k ↔ Bs L k ∨ Bs M k := by simp only [Bs, List.map_append, List.mem_append]
theorem Bs.nil_iff {k : Nat} : Bs [] k ↔ False := by simp [Bs]
theorem Bs.perm {k : Nat} {L M : Hl} (hp : L.Perm M) : Bs L k ↔ Bs M k := (hp.map _).mem_iff
/-- no block twice -/
def Nd (L : Hl) : Prop := (L.map (·.1)).Nodup
theorem Nd.perm {L M : Hl} (h : Nd L) (hp : L.Perm M) : Nd M := (hp.map _).nodup_iff.1 h
theorem Nd.cons_iff {b : Nat} {o : Obj} {L : Hl} : Nd ((b, o) :: L) ↔ ¬ Bs L b ∧ Nd L := by simp [Nd, Bs]
theorem Nd.append_iff {L M : Hl} : Nd (L ++ M) ↔ Nd L ∧ Nd M ∧ ∀ k, Bs L k → ¬ Bs M k := by
  unfold Nd Bs
  rw [List.map_append, List.nodup_append]
  constructor
  · rintro ⟨h1, h2, h3⟩; exact ⟨h1, h2, fun k hk hk' => h3 k hk k hk' rfl⟩
  · rintro ⟨h1, h2, h3⟩; exact ⟨h1, h2, fun a ha b hb e => h3 a ha (e ▸ hb)⟩
end Go.Proofs.YtleoeccjnchclaaGreatDoor
