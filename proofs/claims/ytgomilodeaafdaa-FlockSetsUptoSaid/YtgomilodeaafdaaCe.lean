/- The walk of plays. No condition. -/
import Derived.Test.YtgomilodeaafdaaCd
namespace Go.Proofs.Ytgomilodeaafdaa
open Go.ChangeShapes Go.WideShapes Go.ChangeAt Go.RowKit Du
theorem wpl_concat10 {P : Program} {w : World} {ops : Array Oper} {rest : List Oper} {o : Oper} {a : Act} {Q : Exit → Act → World → Prop} (hgd : o.guard = none) (x y : Operand) (t u : TypeId) (ho : o.op = .binOp .add t x y u)
    (sx sy : ByteArray) (hx : a.eval x = .string sx) (hy : a.eval y = .string sy) (hsz : sx.size + sy.size ≤ 9223372036854775807)
    (h : wpList P ops Q rest (a.put o.dst (.string (sx ++ sy))) w) : wpList P ops Q (o :: rest) a w := by
  refine wpl_value hgd (v := .string (sx ++ sy)) (w' := w) ?_ h
  simp only [execOp, ho, hx, hy]
  simp [go_sem, eqGuard, binOp, Op.stringOp, Result.andThen]
  rw [if_neg (by omega)]
section
variable {w0 w : World} {F : Nat → Prop} {r mr : Nat} {A : List Me}
/-- the op's own block -/
def boxO (o : So10) : Obj := .cells #[.int .i64 o.who, .int .i64 o.do_, .string o.member, .int .i64 o.big, .int .u64 (wd o.n), .int .i64 o.count] 74 (0, 0)
def aggO (o : So10) : Value := .agg #[.int .i64 o.who, .int .i64 o.do_, .string o.member, .int .i64 o.big, .int .u64 (wd o.n), .int .i64 o.count]
/-- the op's numbers are numbers; its text is of a size that may be -/
structure OpOk (o : So10) : Prop where
  big : InI o.big
  count : InI o.count
  size : o.member.size ≤ 140737488355328
structure Bx10 (b : Nat) (who do_ : Int) (m : ByteArray) (big n count : Int) (W : World) : Prop where
  c0 : W.cell? ⟨b, 0, none⟩ = some (.int .i64 who)
  c1 : W.cell? ⟨b, 1, none⟩ = some (.int .i64 do_)
  c2 : W.cell? ⟨b, 2, none⟩ = some (.string m)
  c3 : W.cell? ⟨b, 3, none⟩ = some (.int .i64 big)
  c4 : W.cell? ⟨b, 4, none⟩ = some (.int .u64 n)
  c5 : W.cell? ⟨b, 5, none⟩ = some (.int .i64 count)
theorem Bx10.of {b : Nat} {who do_ : Int} {m : ByteArray} {big n count : Int} {W : World} (h : W.heap[b]? = some (.cells #[.int .i64 who, .int .i64 do_, .string m, .int .i64 big, .int .u64 n, .int .i64 count] 74 (0, 0))) : Bx10 b who do_ m big n count W :=
  ⟨cell_of_blk h 0, cell_of_blk h 1, cell_of_blk h 2, cell_of_blk h 3, cell_of_blk h 4, cell_of_blk h 5⟩
theorem Bx10.fr {b : Nat} {who do_ : Int} {m : ByteArray} {big n count : Int} {W W' : World} {T : Nat → Prop} (h : Bx10 b who do_ m big n count W) (hf : Fr T W W') (hT : ¬ T b) : Bx10 b who do_ m big n count W' :=
  ⟨hf.cell h.c0 hT, hf.cell h.c1 hT, hf.cell h.c2 hT, hf.cell h.c3 hT, hf.cell h.c4 hT, hf.cell h.c5 hT⟩
set_option maxRecDepth 100000 in
set_option maxHeartbeats 2000000 in
theorem plays_add0 (h : Bo w0 w F r mr A) (who : Int) (m : ByteArray) (big : Int) (n : UInt64) (count : Int)  (hb : InI big) (hc : InI count) (hm : m.size ≤ 140737488355328) :
    Calls Try.prog 38 #[.pointer (some ⟨r, 0, none⟩), .pointer (some ⟨mr, 0, none⟩), .agg #[.int .i64 who, .int .i64 0, .string m, .int .i64 big, .int .u64 (wd n), .int .i64 count]] w fun e w' => e = .returned (.bool true) ∧ BoTo w0 w F r mr w' := by
  obtain ⟨c0, hc0⟩ : ∃ c0, wd n = c0 := ⟨_, rfl⟩
  have HC0 := Lib.hid hc0
  rw [hc0]
  obtain ⟨wb, hwb⟩ : ∃ wb, w.alloc (.cells #[.int .i64 who, .int .i64 0, .string m, .int .i64 big, .int .u64 c0, .int .i64 count] 74) = wb := ⟨_, rfl⟩
  have hqb : Fr (fun _ => False) w wb := by rw [← hwb]; exact Fr.alloc _ _ _
  have hbx : Bx10 w.heap.size who 0 m big c0 count wb := by rw [← hwb]; exact Bx10.of (alloc_new _ _)
  have HL := Lib.hid h.lts
  have HQB := Lib.hid hqb
  have HBX := Lib.hid hbx
  have HNF : Hid (¬ F w.heap.size) := fun e => by have := (h.lts.1 _ e).2; omega
  have HSZ : Hid (w.heap.size < wb.heap.size) := by show w.heap.size < _; rw [← hwb]; simp
  have H := Lib.hid (h.quiet hqb)
  have HLB := Lib.hid (h.quiet hqb).lts
  have hb1 := hb.1
  clear h hqb hbx hc0
  obtain ⟨b0, b1, b2, b3, b4, b5⟩ := HBX.out
  go_enter Try.func38, Try.ntmps38
  go_wp2_with fail
  try rw [hwb]
  try clear hwb
  refine (member_any wb who 0 m big c0 count hm hb1).mono ?_
  rintro e w1 ⟨rfl, hf1⟩
  have HF1 := Lib.hid hf1
  obtain ⟨key, hkey⟩ : ∃ k, memS m big = k := ⟨_, rfl⟩
  have hks : key.size ≤ maxLen := by rw [← hkey]; exact memS_size m big hm
  obtain ⟨b, c, hA⟩ := bo_add (H.out.quiet hf1) key hks
  have HA := Lib.hid hA
  have HK := Lib.hid hkey
  rw [hkey]
  clear hA hkey hf1 b0 b1 b2 b3 b4 b5
  go_wp2_with fail
  refine HA.out.mono ?_
  rintro e w2 ⟨rfl, hf2, hn⟩
  have HF2 : Hid (Fr F wb w2) := (HF1.out.mono (fun _ h _ => h.elim)).trans hf2 (fun _ h _ => h)
  have HN := Lib.hid hn
  obtain ⟨b0, b1, b2, b3, b4, b5⟩ := HBX.out.fr HF2.out HNF.out
  clear hf2 hn
  go_wp2_with fail
  refine (member_any w2 who 0 m big c0 count hm hb1).mono ?_
  rintro e w3 ⟨rfl, hf3⟩
  rw [HK.out]
  have HN3 := Lib.hid (HN.out w3 hf3)
  clear hf3 b0 b1 b2 b3 b4 b5
  go_wp2_with fail
  refine HN3.out.mono ?_
  rintro e w4 ⟨rfl, hb4⟩
  have HB4 := Lib.hid hb4
  clear hb4
  have g1 : (b == b) = true := beq_self_eq_true _
  have g2 : (c == c) = true := beq_self_eq_true _
  go_wp2_with fail
  go_ret
  exact ⟨rfl, BoTo.pre HL.out.1 HL.out.2.size HQB.out (BoTo.pre HLB.out.1 HLB.out.2.size HF1.out HB4.out)⟩
set_option maxRecDepth 100000 in
set_option maxHeartbeats 2000000 in
theorem plays_add1 (h : Bo w0 w F r mr A) (who : Int) (m : ByteArray) (big : Int) (n : UInt64) (count : Int)  (hb : InI big) (hc : InI count) (hm : m.size ≤ 140737488355328) :
    Calls Try.prog 38 #[.pointer (some ⟨r, 0, none⟩), .pointer (some ⟨mr, 0, none⟩), .agg #[.int .i64 who, .int .i64 1, .string m, .int .i64 big, .int .u64 (wd n), .int .i64 count]] w fun e w' => e = .returned (.bool true) ∧ BoTo w0 w F r mr w' := by
  obtain ⟨c0, hc0⟩ : ∃ c0, wd n = c0 := ⟨_, rfl⟩
  have HC0 := Lib.hid hc0
  rw [hc0]
  obtain ⟨wb, hwb⟩ : ∃ wb, w.alloc (.cells #[.int .i64 who, .int .i64 1, .string m, .int .i64 big, .int .u64 c0, .int .i64 count] 74) = wb := ⟨_, rfl⟩
  have hqb : Fr (fun _ => False) w wb := by rw [← hwb]; exact Fr.alloc _ _ _
  have hbx : Bx10 w.heap.size who 1 m big c0 count wb := by rw [← hwb]; exact Bx10.of (alloc_new _ _)
  have HL := Lib.hid h.lts
  have HQB := Lib.hid hqb
  have HBX := Lib.hid hbx
  have HNF : Hid (¬ F w.heap.size) := fun e => by have := (h.lts.1 _ e).2; omega
  have HSZ : Hid (w.heap.size < wb.heap.size) := by show w.heap.size < _; rw [← hwb]; simp
  have H := Lib.hid (h.quiet hqb)
  have HLB := Lib.hid (h.quiet hqb).lts
  have hb1 := hb.1
  clear h hqb hbx hc0
  obtain ⟨b0, b1, b2, b3, b4, b5⟩ := HBX.out
  go_enter Try.func38, Try.ntmps38
  go_wp2_with fail
  try rw [hwb]
  try clear hwb
  refine (member_any wb who 1 m big c0 count hm hb1).mono ?_
  rintro e w1 ⟨rfl, hf1⟩
  have HF1 := Lib.hid hf1
  obtain ⟨key, hkey⟩ : ∃ k, memS m big = k := ⟨_, rfl⟩
  have hks : key.size ≤ maxLen := by rw [← hkey]; exact memS_size m big hm
  obtain ⟨b, c, hA⟩ := bo_add (H.out.quiet hf1) key hks
  have HA := Lib.hid hA
  have HK := Lib.hid hkey
  rw [hkey]
  clear hA hkey hf1 b0 b1 b2 b3 b4 b5
  go_wp2_with fail
  refine HA.out.mono ?_
  rintro e w2 ⟨rfl, hf2, hn⟩
  have HF2 : Hid (Fr F wb w2) := (HF1.out.mono (fun _ h _ => h.elim)).trans hf2 (fun _ h _ => h)
  have HN := Lib.hid hn
  obtain ⟨b0, b1, b2, b3, b4, b5⟩ := HBX.out.fr HF2.out HNF.out
  clear hf2 hn
  go_wp2_with fail
  refine (member_any w2 who 1 m big c0 count hm hb1).mono ?_
  rintro e w3 ⟨rfl, hf3⟩
  rw [HK.out]
  have HN3 := Lib.hid (HN.out w3 hf3)
  clear hf3 b0 b1 b2 b3 b4 b5
  go_wp2_with fail
  refine HN3.out.mono ?_
  rintro e w4 ⟨rfl, hb4⟩
  have HB4 := Lib.hid hb4
  clear hb4
  have g1 : (b == b) = true := beq_self_eq_true _
  have g2 : (c == c) = true := beq_self_eq_true _
  go_wp2_with fail
  go_ret
  exact ⟨rfl, BoTo.pre HL.out.1 HL.out.2.size HQB.out (BoTo.pre HLB.out.1 HLB.out.2.size HF1.out HB4.out)⟩
set_option maxRecDepth 100000 in
set_option maxHeartbeats 2000000 in
theorem plays_add2 (h : Bo w0 w F r mr A) (who : Int) (m : ByteArray) (big : Int) (n : UInt64) (count : Int)  (hb : InI big) (hc : InI count) (hm : m.size ≤ 140737488355328) :
    Calls Try.prog 38 #[.pointer (some ⟨r, 0, none⟩), .pointer (some ⟨mr, 0, none⟩), .agg #[.int .i64 who, .int .i64 2, .string m, .int .i64 big, .int .u64 (wd n), .int .i64 count]] w fun e w' => e = .returned (.bool true) ∧ BoTo w0 w F r mr w' := by
  obtain ⟨c0, hc0⟩ : ∃ c0, wd n = c0 := ⟨_, rfl⟩
  have HC0 := Lib.hid hc0
  rw [hc0]
  obtain ⟨wb, hwb⟩ : ∃ wb, w.alloc (.cells #[.int .i64 who, .int .i64 2, .string m, .int .i64 big, .int .u64 c0, .int .i64 count] 74) = wb := ⟨_, rfl⟩
  have hqb : Fr (fun _ => False) w wb := by rw [← hwb]; exact Fr.alloc _ _ _
  have hbx : Bx10 w.heap.size who 2 m big c0 count wb := by rw [← hwb]; exact Bx10.of (alloc_new _ _)
  have HL := Lib.hid h.lts
  have HQB := Lib.hid hqb
  have HBX := Lib.hid hbx
  have HNF : Hid (¬ F w.heap.size) := fun e => by have := (h.lts.1 _ e).2; omega
  have HSZ : Hid (w.heap.size < wb.heap.size) := by show w.heap.size < _; rw [← hwb]; simp
  have H := Lib.hid (h.quiet hqb)
  have HLB := Lib.hid (h.quiet hqb).lts
  have hb1 := hb.1
  clear h hqb hbx hc0
  obtain ⟨b0, b1, b2, b3, b4, b5⟩ := HBX.out
  go_enter Try.func38, Try.ntmps38
  go_wp2_with fail
  try rw [hwb]
  try clear hwb
  refine (member_any wb who 2 m big c0 count hm hb1).mono ?_
  rintro e w1 ⟨rfl, hf1⟩
  have HF1 := Lib.hid hf1
  obtain ⟨key, hkey⟩ : ∃ k, memS m big = k := ⟨_, rfl⟩
  have hks : key.size ≤ maxLen := by rw [← hkey]; exact memS_size m big hm
  obtain ⟨b, c, hA⟩ := bo_add (H.out.quiet hf1) key hks
  have HA := Lib.hid hA
  have HK := Lib.hid hkey
  rw [hkey]
  clear hA hkey hf1 b0 b1 b2 b3 b4 b5
  go_wp2_with fail
  refine HA.out.mono ?_
  rintro e w2 ⟨rfl, hf2, hn⟩
  have HF2 : Hid (Fr F wb w2) := (HF1.out.mono (fun _ h _ => h.elim)).trans hf2 (fun _ h _ => h)
  have HN := Lib.hid hn
  obtain ⟨b0, b1, b2, b3, b4, b5⟩ := HBX.out.fr HF2.out HNF.out
  clear hf2 hn
  go_wp2_with fail
  refine (member_any w2 who 2 m big c0 count hm hb1).mono ?_
  rintro e w3 ⟨rfl, hf3⟩
  rw [HK.out]
  have HN3 := Lib.hid (HN.out w3 hf3)
  clear hf3 b0 b1 b2 b3 b4 b5
  go_wp2_with fail
  refine HN3.out.mono ?_
  rintro e w4 ⟨rfl, hb4⟩
  have HB4 := Lib.hid hb4
  clear hb4
  have g1 : (b == b) = true := beq_self_eq_true _
  have g2 : (c == c) = true := beq_self_eq_true _
  go_wp2_with fail
  go_ret
  exact ⟨rfl, BoTo.pre HL.out.1 HL.out.2.size HQB.out (BoTo.pre HLB.out.1 HLB.out.2.size HF1.out HB4.out)⟩
set_option maxRecDepth 100000 in
set_option maxHeartbeats 2000000 in
theorem plays_del3 (h : Bo w0 w F r mr A) (who : Int) (m : ByteArray) (big : Int) (n : UInt64) (count : Int)  (hb : InI big) (hc : InI count) (hm : m.size ≤ 140737488355328) :
    Calls Try.prog 38 #[.pointer (some ⟨r, 0, none⟩), .pointer (some ⟨mr, 0, none⟩), .agg #[.int .i64 who, .int .i64 3, .string m, .int .i64 big, .int .u64 (wd n), .int .i64 count]] w fun e w' => e = .returned (.bool true) ∧ BoTo w0 w F r mr w' := by
  obtain ⟨c0, hc0⟩ : ∃ c0, wd n = c0 := ⟨_, rfl⟩
  have HC0 := Lib.hid hc0
  rw [hc0]
  obtain ⟨wb, hwb⟩ : ∃ wb, w.alloc (.cells #[.int .i64 who, .int .i64 3, .string m, .int .i64 big, .int .u64 c0, .int .i64 count] 74) = wb := ⟨_, rfl⟩
  have hqb : Fr (fun _ => False) w wb := by rw [← hwb]; exact Fr.alloc _ _ _
  have hbx : Bx10 w.heap.size who 3 m big c0 count wb := by rw [← hwb]; exact Bx10.of (alloc_new _ _)
  have HL := Lib.hid h.lts
  have HQB := Lib.hid hqb
  have HBX := Lib.hid hbx
  have HNF : Hid (¬ F w.heap.size) := fun e => by have := (h.lts.1 _ e).2; omega
  have HSZ : Hid (w.heap.size < wb.heap.size) := by show w.heap.size < _; rw [← hwb]; simp
  have H := Lib.hid (h.quiet hqb)
  have HLB := Lib.hid (h.quiet hqb).lts
  have hb1 := hb.1
  clear h hqb hbx hc0
  obtain ⟨b0, b1, b2, b3, b4, b5⟩ := HBX.out
  go_enter Try.func38, Try.ntmps38
  go_wp2_with fail
  try rw [hwb]
  try clear hwb
  refine (member_any wb who 3 m big c0 count hm hb1).mono ?_
  rintro e w1 ⟨rfl, hf1⟩
  have HF1 := Lib.hid hf1
  obtain ⟨key, hkey⟩ : ∃ k, memS m big = k := ⟨_, rfl⟩
  have hks : key.size ≤ maxLen := by rw [← hkey]; exact memS_size m big hm
  obtain ⟨b, hA⟩ := bo_del (H.out.quiet hf1) key hks
  have HA := Lib.hid hA
  have HK := Lib.hid hkey
  rw [hkey]
  clear hA hkey hf1 b0 b1 b2 b3 b4 b5
  go_wp2_with fail
  refine HA.out.mono ?_
  rintro e w2 ⟨rfl, hf2, hn⟩
  have HF2 : Hid (Fr F wb w2) := (HF1.out.mono (fun _ h _ => h.elim)).trans hf2 (fun _ h _ => h)
  have HN := Lib.hid hn
  obtain ⟨b0, b1, b2, b3, b4, b5⟩ := HBX.out.fr HF2.out HNF.out
  clear hf2 hn
  go_wp2_with fail
  refine (member_any w2 who 3 m big c0 count hm hb1).mono ?_
  rintro e w3 ⟨rfl, hf3⟩
  rw [HK.out]
  have HN3 := Lib.hid (HN.out w3 hf3)
  clear hf3 b0 b1 b2 b3 b4 b5
  go_wp2_with fail
  refine HN3.out.mono ?_
  rintro e w4 ⟨rfl, hb4⟩
  have HB4 := Lib.hid hb4
  clear hb4
  have g1 : (b == b) = true := beq_self_eq_true _
  go_wp2_with fail
  go_ret
  exact ⟨rfl, BoTo.pre HL.out.1 HL.out.2.size HQB.out (BoTo.pre HLB.out.1 HLB.out.2.size HF1.out HB4.out)⟩
set_option maxRecDepth 100000 in
set_option maxHeartbeats 2000000 in
theorem plays_del4 (h : Bo w0 w F r mr A) (who : Int) (m : ByteArray) (big : Int) (n : UInt64) (count : Int)  (hb : InI big) (hc : InI count) (hm : m.size ≤ 140737488355328) :
    Calls Try.prog 38 #[.pointer (some ⟨r, 0, none⟩), .pointer (some ⟨mr, 0, none⟩), .agg #[.int .i64 who, .int .i64 4, .string m, .int .i64 big, .int .u64 (wd n), .int .i64 count]] w fun e w' => e = .returned (.bool true) ∧ BoTo w0 w F r mr w' := by
  obtain ⟨c0, hc0⟩ : ∃ c0, wd n = c0 := ⟨_, rfl⟩
  have HC0 := Lib.hid hc0
  rw [hc0]
  obtain ⟨wb, hwb⟩ : ∃ wb, w.alloc (.cells #[.int .i64 who, .int .i64 4, .string m, .int .i64 big, .int .u64 c0, .int .i64 count] 74) = wb := ⟨_, rfl⟩
  have hqb : Fr (fun _ => False) w wb := by rw [← hwb]; exact Fr.alloc _ _ _
  have hbx : Bx10 w.heap.size who 4 m big c0 count wb := by rw [← hwb]; exact Bx10.of (alloc_new _ _)
  have HL := Lib.hid h.lts
  have HQB := Lib.hid hqb
  have HBX := Lib.hid hbx
  have HNF : Hid (¬ F w.heap.size) := fun e => by have := (h.lts.1 _ e).2; omega
  have HSZ : Hid (w.heap.size < wb.heap.size) := by show w.heap.size < _; rw [← hwb]; simp
  have H := Lib.hid (h.quiet hqb)
  have HLB := Lib.hid (h.quiet hqb).lts
  have hb1 := hb.1
  clear h hqb hbx hc0
  obtain ⟨b0, b1, b2, b3, b4, b5⟩ := HBX.out
  go_enter Try.func38, Try.ntmps38
  go_wp2_with fail
  try rw [hwb]
  try clear hwb
  refine (member_any wb who 4 m big c0 count hm hb1).mono ?_
  rintro e w1 ⟨rfl, hf1⟩
  have HF1 := Lib.hid hf1
  obtain ⟨key, hkey⟩ : ∃ k, memS m big = k := ⟨_, rfl⟩
  have hks : key.size ≤ maxLen := by rw [← hkey]; exact memS_size m big hm
  obtain ⟨b, hA⟩ := bo_del (H.out.quiet hf1) key hks
  have HA := Lib.hid hA
  have HK := Lib.hid hkey
  rw [hkey]
  clear hA hkey hf1 b0 b1 b2 b3 b4 b5
  go_wp2_with fail
  refine HA.out.mono ?_
  rintro e w2 ⟨rfl, hf2, hn⟩
  have HF2 : Hid (Fr F wb w2) := (HF1.out.mono (fun _ h _ => h.elim)).trans hf2 (fun _ h _ => h)
  have HN := Lib.hid hn
  obtain ⟨b0, b1, b2, b3, b4, b5⟩ := HBX.out.fr HF2.out HNF.out
  clear hf2 hn
  go_wp2_with fail
  refine (member_any w2 who 4 m big c0 count hm hb1).mono ?_
  rintro e w3 ⟨rfl, hf3⟩
  rw [HK.out]
  have HN3 := Lib.hid (HN.out w3 hf3)
  clear hf3 b0 b1 b2 b3 b4 b5
  go_wp2_with fail
  refine HN3.out.mono ?_
  rintro e w4 ⟨rfl, hb4⟩
  have HB4 := Lib.hid hb4
  clear hb4
  have g1 : (b == b) = true := beq_self_eq_true _
  go_wp2_with fail
  go_ret
  exact ⟨rfl, BoTo.pre HL.out.1 HL.out.2.size HQB.out (BoTo.pre HLB.out.1 HLB.out.2.size HF1.out HB4.out)⟩
set_option maxRecDepth 100000 in
set_option maxHeartbeats 2000000 in
theorem plays_has5 (h : Bo w0 w F r mr A) (who : Int) (m : ByteArray) (big : Int) (n : UInt64) (count : Int)  (hb : InI big) (hc : InI count) (hm : m.size ≤ 140737488355328) :
    Calls Try.prog 38 #[.pointer (some ⟨r, 0, none⟩), .pointer (some ⟨mr, 0, none⟩), .agg #[.int .i64 who, .int .i64 5, .string m, .int .i64 big, .int .u64 (wd n), .int .i64 count]] w fun e w' => e = .returned (.bool true) ∧ BoTo w0 w F r mr w' := by
  obtain ⟨c0, hc0⟩ : ∃ c0, wd n = c0 := ⟨_, rfl⟩
  have HC0 := Lib.hid hc0
  rw [hc0]
  obtain ⟨wb, hwb⟩ : ∃ wb, w.alloc (.cells #[.int .i64 who, .int .i64 5, .string m, .int .i64 big, .int .u64 c0, .int .i64 count] 74) = wb := ⟨_, rfl⟩
  have hqb : Fr (fun _ => False) w wb := by rw [← hwb]; exact Fr.alloc _ _ _
  have hbx : Bx10 w.heap.size who 5 m big c0 count wb := by rw [← hwb]; exact Bx10.of (alloc_new _ _)
  have HL := Lib.hid h.lts
  have HQB := Lib.hid hqb
  have HBX := Lib.hid hbx
  have HNF : Hid (¬ F w.heap.size) := fun e => by have := (h.lts.1 _ e).2; omega
  have HSZ : Hid (w.heap.size < wb.heap.size) := by show w.heap.size < _; rw [← hwb]; simp
  have H := Lib.hid (h.quiet hqb)
  have HLB := Lib.hid (h.quiet hqb).lts
  have hb1 := hb.1
  clear h hqb hbx hc0
  obtain ⟨b0, b1, b2, b3, b4, b5⟩ := HBX.out
  go_enter Try.func38, Try.ntmps38
  go_wp2_with fail
  try rw [hwb]
  try clear hwb
  refine (member_any wb who 5 m big c0 count hm hb1).mono ?_
  rintro e w1 ⟨rfl, hf1⟩
  have HF1 := Lib.hid hf1
  obtain ⟨key, hkey⟩ : ∃ k, memS m big = k := ⟨_, rfl⟩
  have hks : key.size ≤ maxLen := by rw [← hkey]; exact memS_size m big hm
  obtain ⟨b, hA⟩ := bo_has (H.out.quiet hf1) key hks
  have HA := Lib.hid hA
  have HK := Lib.hid hkey
  rw [hkey]
  clear hA hkey hf1 b0 b1 b2 b3 b4 b5
  go_wp2_with fail
  refine HA.out.mono ?_
  rintro e w2 ⟨rfl, hf2, hn⟩
  have HF2 : Hid (Fr F wb w2) := (HF1.out.mono (fun _ h _ => h.elim)).trans hf2 (fun _ h _ => h)
  have HN := Lib.hid hn
  obtain ⟨b0, b1, b2, b3, b4, b5⟩ := HBX.out.fr HF2.out HNF.out
  clear hf2 hn
  go_wp2_with fail
  refine (member_any w2 who 5 m big c0 count hm hb1).mono ?_
  rintro e w3 ⟨rfl, hf3⟩
  rw [HK.out]
  have HN3 := Lib.hid (HN.out w3 hf3)
  clear hf3 b0 b1 b2 b3 b4 b5
  go_wp2_with fail
  refine HN3.out.mono ?_
  rintro e w4 ⟨rfl, hb4⟩
  have HB4 := Lib.hid hb4
  clear hb4
  have g1 : (b == b) = true := beq_self_eq_true _
  go_wp2_with fail
  go_ret
  exact ⟨rfl, BoTo.pre HL.out.1 HL.out.2.size HQB.out (BoTo.pre HLB.out.1 HLB.out.2.size HF1.out HB4.out)⟩
theorem samp_form (l : List ByteArray) (n : UInt64) : ∃ s b, sampM l n = .tuple #[.string s, .bool b] := by
  unfold sampM
  split
  · exact ⟨_, _, rfl⟩
  · exact ⟨_, _, rfl⟩
set_option maxRecDepth 100000 in
set_option maxHeartbeats 2000000 in
theorem plays_sample6 (h : Bo w0 w F r mr A) (who : Int) (m : ByteArray) (big : Int) (n : UInt64) (count : Int)  (hb : InI big) (hc : InI count) (hm : m.size ≤ 140737488355328) :
    Calls Try.prog 38 #[.pointer (some ⟨r, 0, none⟩), .pointer (some ⟨mr, 0, none⟩), .agg #[.int .i64 who, .int .i64 6, .string m, .int .i64 big, .int .u64 (wd n), .int .i64 count]] w fun e w' => e = .returned (.bool true) ∧ BoTo w0 w F r mr w' := by
  obtain ⟨c0, hc0⟩ : ∃ c0, wd n = c0 := ⟨_, rfl⟩
  have HC0 := Lib.hid hc0
  rw [hc0]
  obtain ⟨wb, hwb⟩ : ∃ wb, w.alloc (.cells #[.int .i64 who, .int .i64 6, .string m, .int .i64 big, .int .u64 c0, .int .i64 count] 74) = wb := ⟨_, rfl⟩
  have hqb : Fr (fun _ => False) w wb := by rw [← hwb]; exact Fr.alloc _ _ _
  have hbx : Bx10 w.heap.size who 6 m big c0 count wb := by rw [← hwb]; exact Bx10.of (alloc_new _ _)
  have HL := Lib.hid h.lts
  have HQB := Lib.hid hqb
  have HBX := Lib.hid hbx
  have HNF : Hid (¬ F w.heap.size) := fun e => by have := (h.lts.1 _ e).2; omega
  have HSZ : Hid (w.heap.size < wb.heap.size) := by show w.heap.size < _; rw [← hwb]; simp
  have H := Lib.hid (h.quiet hqb)
  have HLB := Lib.hid (h.quiet hqb).lts
  have hb1 := hb.1
  clear h hqb hbx hc0
  obtain ⟨F1, F2, d, M, l, hh⟩ := H.out
  have hfs : ∀ W, Fr (fun _ => False) wb W → Calls Try.prog 65 #[.pointer (some ⟨r, 0, none⟩), .int .u64 c0] W fun e w' => e = .returned (sampM l n) ∧ Fr (fun _ => False) W w' := fun W hf => by
    have h1 := floSample_any W _ F1 r d M A n (hh.quiet hf).f l hh.lists hh.m.rise
    rw [HC0.out] at h1
    exact h1
  have hms : Calls Try.prog 110 #[.pointer (some ⟨mr, 0, none⟩), .int .u64 c0] wb fun e w' => e = .returned (sampM l n) ∧ Fr (fun _ => False) wb w' := by
    obtain ⟨p, Fd, X, av, hx⟩ := hh.m.x
    have h1 := rfSample_any wb _ mr p F2 Fd _ _ l X av hx n
    rw [HC0.out] at h1
    exact h1
  obtain ⟨ss, sb, hsv⟩ := samp_form l n
  rw [hsv] at hfs hms
  have HFS := Lib.hid hfs
  have HMS := Lib.hid hms
  have g1 : (sb == sb) = true := beq_self_eq_true _
  have g2 : (ss.toList == ss.toList) = true := beq_self_eq_true _
  clear hfs hms hsv hh
  obtain ⟨b0, b1, b2, b3, b4, b5⟩ := HBX.out
  go_enter Try.func38, Try.ntmps38
  go_wp2_with fail
  try rw [hwb]
  try clear hwb
  refine HMS.out.mono ?_
  rintro e w1 ⟨rfl, hf1⟩
  have HF1 := Lib.hid hf1
  have HF1F : Hid (Fr F wb w1) := hf1.mono (fun _ h _ => h.elim)
  have HN3 := Lib.hid (HFS.out w1 hf1)
  clear hf1 b0 b1 b2 b3 b4 b5
  obtain ⟨b0, b1, b2, b3, b4, b5⟩ := HBX.out.fr HF1F.out HNF.out
  go_wp2_with fail
  refine HN3.out.mono ?_
  rintro e w2 ⟨rfl, hf2⟩
  have HF2 := Lib.hid (HF1.out.trans hf2 (fun _ h _ => h))
  clear hf2 b0 b1 b2 b3 b4 b5
  go_wp2_with fail
  go_ret
  exact ⟨rfl, BoTo.pre HL.out.1 HL.out.2.size HQB.out (H.out.stay HF2.out)⟩
set_option maxRecDepth 100000 in
set_option maxHeartbeats 2000000 in
theorem plays_scan7 (h : Bo w0 w F r mr A) (who : Int) (m : ByteArray) (big : Int) (n : UInt64) (count : Int)  (hb : InI big) (hc : InI count) (hm : m.size ≤ 140737488355328) :
    Calls Try.prog 38 #[.pointer (some ⟨r, 0, none⟩), .pointer (some ⟨mr, 0, none⟩), .agg #[.int .i64 who, .int .i64 7, .string m, .int .i64 big, .int .u64 (wd n), .int .i64 count]] w fun e w' => e = .returned (.bool true) ∧ BoTo w0 w F r mr w' := by
  obtain ⟨c0, hc0⟩ : ∃ c0, wd n = c0 := ⟨_, rfl⟩
  have HC0 := Lib.hid hc0
  rw [hc0]
  obtain ⟨wb, hwb⟩ : ∃ wb, w.alloc (.cells #[.int .i64 who, .int .i64 7, .string m, .int .i64 big, .int .u64 c0, .int .i64 count] 74) = wb := ⟨_, rfl⟩
  have hqb : Fr (fun _ => False) w wb := by rw [← hwb]; exact Fr.alloc _ _ _
  have hbx : Bx10 w.heap.size who 7 m big c0 count wb := by rw [← hwb]; exact Bx10.of (alloc_new _ _)
  have HL := Lib.hid h.lts
  have HQB := Lib.hid hqb
  have HBX := Lib.hid hbx
  have HNF : Hid (¬ F w.heap.size) := fun e => by have := (h.lts.1 _ e).2; omega
  have HSZ : Hid (w.heap.size < wb.heap.size) := by show w.heap.size < _; rw [← hwb]; simp
  have H := Lib.hid (h.quiet hqb)
  have HLB := Lib.hid (h.quiet hqb).lts
  have hb1 := hb.1
  clear h hqb hbx hc0
  have HSC := Lib.hid (scans_any H.out n count hc)
  rw [HC0.out] at HSC
  obtain ⟨b0, b1, b2, b3, b4, b5⟩ := HBX.out
  go_enter Try.func38, Try.ntmps38
  go_wp2_with fail
  try rw [hwb]
  try clear hwb
  refine HSC.out.mono ?_
  rintro e w1 ⟨rfl, hf1⟩
  have HF1 := Lib.hid hf1
  clear hf1 b0 b1 b2 b3 b4 b5
  go_wp2_with fail
  go_ret
  exact ⟨rfl, BoTo.pre HL.out.1 HL.out.2.size HQB.out (H.out.stay HF1.out)⟩
set_option maxRecDepth 100000 in
set_option maxHeartbeats 2000000 in
theorem plays_stand10 (h : Bo w0 w F r mr A) (who : Int) (m : ByteArray) (big : Int) (n : UInt64) (count : Int)  (hb : InI big) (hc : InI count) (hm : m.size ≤ 140737488355328) :
    Calls Try.prog 38 #[.pointer (some ⟨r, 0, none⟩), .pointer (some ⟨mr, 0, none⟩), .agg #[.int .i64 who, .int .i64 10, .string m, .int .i64 big, .int .u64 (wd n), .int .i64 count]] w fun e w' => e = .returned (.bool true) ∧ BoTo w0 w F r mr w' := by
  obtain ⟨c0, hc0⟩ : ∃ c0, wd n = c0 := ⟨_, rfl⟩
  have HC0 := Lib.hid hc0
  rw [hc0]
  obtain ⟨wb, hwb⟩ : ∃ wb, w.alloc (.cells #[.int .i64 who, .int .i64 10, .string m, .int .i64 big, .int .u64 c0, .int .i64 count] 74) = wb := ⟨_, rfl⟩
  have hqb : Fr (fun _ => False) w wb := by rw [← hwb]; exact Fr.alloc _ _ _
  have hbx : Bx10 w.heap.size who 10 m big c0 count wb := by rw [← hwb]; exact Bx10.of (alloc_new _ _)
  have HL := Lib.hid h.lts
  have HQB := Lib.hid hqb
  have HBX := Lib.hid hbx
  have HNF : Hid (¬ F w.heap.size) := fun e => by have := (h.lts.1 _ e).2; omega
  have HSZ : Hid (w.heap.size < wb.heap.size) := by show w.heap.size < _; rw [← hwb]; simp
  have H := Lib.hid (h.quiet hqb)
  have HLB := Lib.hid (h.quiet hqb).lts
  have hb1 := hb.1
  clear h hqb hbx hc0
  have HSC := Lib.hid (stands_any H.out)
  obtain ⟨b0, b1, b2, b3, b4, b5⟩ := HBX.out
  go_enter Try.func38, Try.ntmps38
  go_wp2_with fail
  try rw [hwb]
  try clear hwb
  refine HSC.out.mono ?_
  rintro e w1 ⟨rfl, hf1⟩
  have HF1 := Lib.hid hf1
  clear hf1 b0 b1 b2 b3 b4 b5
  go_wp2_with fail
  go_ret
  exact ⟨rfl, BoTo.pre HL.out.1 HL.out.2.size HQB.out (H.out.stay HF1.out)⟩
set_option maxRecDepth 100000 in
set_option maxHeartbeats 2000000 in
theorem plays_else (h : Bo w0 w F r mr A) (who do_ : Int) (m : ByteArray) (big : Int) (n : UInt64) (count : Int) (hd : do_ < 0 ∨ 10 < do_) (hb : InI big) (hc : InI count) (hm : m.size ≤ 140737488355328) :
    Calls Try.prog 38 #[.pointer (some ⟨r, 0, none⟩), .pointer (some ⟨mr, 0, none⟩), .agg #[.int .i64 who, .int .i64 do_, .string m, .int .i64 big, .int .u64 (wd n), .int .i64 count]] w fun e w' => e = .returned (.bool true) ∧ BoTo w0 w F r mr w' := by
  obtain ⟨c0, hc0⟩ : ∃ c0, wd n = c0 := ⟨_, rfl⟩
  have HC0 := Lib.hid hc0
  rw [hc0]
  obtain ⟨wb, hwb⟩ : ∃ wb, w.alloc (.cells #[.int .i64 who, .int .i64 do_, .string m, .int .i64 big, .int .u64 c0, .int .i64 count] 74) = wb := ⟨_, rfl⟩
  have hqb : Fr (fun _ => False) w wb := by rw [← hwb]; exact Fr.alloc _ _ _
  have hbx : Bx10 w.heap.size who do_ m big c0 count wb := by rw [← hwb]; exact Bx10.of (alloc_new _ _)
  have HL := Lib.hid h.lts
  have HQB := Lib.hid hqb
  have HBX := Lib.hid hbx
  have HNF : Hid (¬ F w.heap.size) := fun e => by have := (h.lts.1 _ e).2; omega
  have HSZ : Hid (w.heap.size < wb.heap.size) := by show w.heap.size < _; rw [← hwb]; simp
  have H := Lib.hid (h.quiet hqb)
  have HLB := Lib.hid (h.quiet hqb).lts
  have hb1 := hb.1
  clear h hqb hbx hc0
  have e0 : (do_ == 0) = false := beq_eq_false_iff_ne.2 (by omega)
  have e1 : (do_ == 1) = false := beq_eq_false_iff_ne.2 (by omega)
  have e2 : (do_ == 2) = false := beq_eq_false_iff_ne.2 (by omega)
  have e3 : (do_ == 3) = false := beq_eq_false_iff_ne.2 (by omega)
  have e4 : (do_ == 4) = false := beq_eq_false_iff_ne.2 (by omega)
  have e5 : (do_ == 5) = false := beq_eq_false_iff_ne.2 (by omega)
  have e6 : (do_ == 6) = false := beq_eq_false_iff_ne.2 (by omega)
  have e7 : (do_ == 7) = false := beq_eq_false_iff_ne.2 (by omega)
  have e8 : (do_ == 8) = false := beq_eq_false_iff_ne.2 (by omega)
  have e9 : (do_ == 9) = false := beq_eq_false_iff_ne.2 (by omega)
  have e10 : (do_ == 10) = false := beq_eq_false_iff_ne.2 (by omega)
  obtain ⟨b0, b1, b2, b3, b4, b5⟩ := HBX.out
  go_enter Try.func38, Try.ntmps38
  go_wp2_with fail
  try rw [hwb]
  try clear hwb
  go_ret
  exact ⟨rfl, BoTo.pre HL.out.1 HL.out.2.size HQB.out (H.out.stay (Fr.refl _ _))⟩
set_option maxRecDepth 100000 in
set_option maxHeartbeats 2000000 in
theorem plays_many8 (h : Bo w0 w F r mr A) (who : Int) (m : ByteArray) (big : Int) (n : UInt64) (count : Int)  (hb : InI big) (hc : InI count) (hm : m.size ≤ 140737488355328) :
    Calls Try.prog 38 #[.pointer (some ⟨r, 0, none⟩), .pointer (some ⟨mr, 0, none⟩), .agg #[.int .i64 who, .int .i64 8, .string m, .int .i64 big, .int .u64 (wd n), .int .i64 count]] w fun e w' => e = .returned (.bool true) ∧ BoTo w0 w F r mr w' := by
  obtain ⟨c0, hc0⟩ : ∃ c0, wd n = c0 := ⟨_, rfl⟩
  have HC0 := Lib.hid hc0
  rw [hc0]
  obtain ⟨wb, hwb⟩ : ∃ wb, w.alloc (.cells #[.int .i64 who, .int .i64 8, .string m, .int .i64 big, .int .u64 c0, .int .i64 count] 74) = wb := ⟨_, rfl⟩
  have hqb : Fr (fun _ => False) w wb := by rw [← hwb]; exact Fr.alloc _ _ _
  have hbx : Bx10 w.heap.size who 8 m big c0 count wb := by rw [← hwb]; exact Bx10.of (alloc_new _ _)
  have HL := Lib.hid h.lts
  have HQB := Lib.hid hqb
  have HBX := Lib.hid hbx
  have HNF : Hid (¬ F w.heap.size) := fun e => by have := (h.lts.1 _ e).2; omega
  have HSZ : Hid (w.heap.size < wb.heap.size) := by show w.heap.size < _; rw [← hwb]; simp
  have H := Lib.hid (h.quiet hqb)
  have HLB := Lib.hid (h.quiet hqb).lts
  have hb1 := hb.1
  clear h hqb hbx hc0
  obtain ⟨q, hq⟩ : ∃ q : Nat, min (max count 0) 60 = (q : Int) := ⟨(min (max count 0) 60).toNat, by omega⟩
  have hq60 : q ≤ 60 := by omega
  obtain ⟨b0, b1, b2, b3, b4, b5⟩ := HBX.out
  go_enter Try.func38, Try.ntmps38
  go_wp2_with fail
  try rw [hwb]
  try clear hwb
  go_loopw [118] (fun i wr => ∃ k : Nat, i = .int .i64 k ∧ k ≤ q ∧ Hid (BoTo w0 wb F r mr wr)) (fun i _ => q - (intOf i).toNat)
  case atStart => exact ⟨0, rfl, by omega, H.out.stay (Fr.refl _ _)⟩
  case round =>
    obtain ⟨k, rfl, hk, HT⟩ := hrel
    obtain ⟨wo, rfl⟩ : ∃ wo, wo = wr := ⟨_, rfl⟩
    obtain ⟨A', hbo, hfr⟩ := HT.out
    have HBO := Lib.hid hbo
    have HFR := Lib.hid hfr
    clear b0 b1 b2 b3 b4 b5
    obtain ⟨b0, b1, b2, b3, b4, b5⟩ := HBX.out.fr hfr HNF.out
    clear hbo hfr
    by_cases hlt : k < q
    · have hkb : (UInt8.ofNat k).toNat = k := by rw [UInt8.toNat_ofNat']; omega
      have e1 : IntKind.u8.wrap (k : Int) = (k : Int) := by rw [IntKind.wrap_u8]; omega
      have hu : u8 (UInt8.ofNat k) = .int .u8 (k : Int) := by unfold u8; rw [hkb]
      have hrd : RdC (wo.alloc (.cells #[.int .u8 (k : Int)] 5)) 1 (.slice (some ⟨wo.heap.size, 0, none⟩) 1 1) [UInt8.ofNat k].length ([UInt8.ofNat k].map u8) := by
        rw [List.map_cons, hu]
        exact RdC.of_owns (World.ownsRow_lit (base := wo.heap.size) (e := 5) (size := 1) wo #[.int .u8 (k : Int)] 1 (Nat.le_refl _) (by decide) rfl)
      have HRD := Lib.hid hrd
      obtain ⟨key, hkey⟩ : ∃ key : ByteArray, m ++ ⟨[UInt8.ofNat k].toArray⟩ = key := ⟨_, rfl⟩
      have hz1 : (⟨[UInt8.ofNat k].toArray⟩ : ByteArray).size = 1 := rfl
      have hks : key.size ≤ maxLen := by rw [← hkey, ByteArray.size_append, hz1]; unfold maxLen; omega
      obtain ⟨b, c, hA⟩ := bo_add (HBO.out.quiet (Fr.alloc _ wo (.cells #[.int .u8 (k : Int)] 5))) key hks
      have HA := Lib.hid hA
      have HKEY := Lib.hid hkey
      have HQ1 : Hid (Fr (fun _ => False) wo (wo.alloc (.cells #[.int .u8 (k : Int)] 5))) := Fr.alloc _ _ _
      have HZ1 := Lib.hid hz1
      have b7 : (k : Int) < (q : Int) := by omega
      clear hkb hu hrd hkey hA hz1 HT
      go_wp2_with (first | (refine wpl_toString rfl (.tmp 125) 109 9 5 rfl _ [UInt8.ofNat k] rfl Try.underlying109 Try.underlying9 Try.underlying5 HRD.out ?_) | (refine wpl_concat10 rfl (.tmp 122) (.tmp 126) 9 9 rfl m ⟨[UInt8.ofNat k].toArray⟩ rfl rfl (by rw [HZ1.out]; omega) ?_; rw [HKEY.out]))
      refine HA.out.mono ?_
      rintro e w2 ⟨rfl, hf2, hn⟩
      have HF2 := Lib.hid hf2
      have HN3 := Lib.hid (hn w2 (Fr.refl _ _))
      clear hf2 hn b0 b1 b2 b3 b4 b5
      go_wp2_with fail
      refine HN3.out.mono ?_
      rintro e w4 ⟨rfl, hb4⟩
      have HB4 : Hid (BoTo w0 wb F r mr w4) := BoTo.two HLB.out.1 HLB.out.2.size HFR.out (BoTo.pre HBO.out.lts.1 HBO.out.lts.2.size HQ1.out hb4)
      clear hb4
      have g0 : (b == b) = true := beq_self_eq_true _
      have g1 : (b != b) = false := by rw [bne, g0]; rfl
      have g2 : (c == c) = true := beq_self_eq_true _
      have g3 : (c != c) = false := by rw [bne, g2]; rfl
      go_wp2_with fail
      go_roundw
      case rel => exact ⟨k + 1, by go_num, by omega, HB4⟩
      case measure => simp [intOf]; omega
    · obtain rfl : k = q := by omega
      go_wp2_with fail
      go_ret
      exact ⟨rfl, BoTo.pre HL.out.1 HL.out.2.size HQB.out HT.out⟩
set_option maxRecDepth 100000 in
set_option maxHeartbeats 2000000 in
theorem plays_many9 (h : Bo w0 w F r mr A) (who : Int) (m : ByteArray) (big : Int) (n : UInt64) (count : Int)  (hb : InI big) (hc : InI count) (hm : m.size ≤ 140737488355328) :
    Calls Try.prog 38 #[.pointer (some ⟨r, 0, none⟩), .pointer (some ⟨mr, 0, none⟩), .agg #[.int .i64 who, .int .i64 9, .string m, .int .i64 big, .int .u64 (wd n), .int .i64 count]] w fun e w' => e = .returned (.bool true) ∧ BoTo w0 w F r mr w' := by
  obtain ⟨c0, hc0⟩ : ∃ c0, wd n = c0 := ⟨_, rfl⟩
  have HC0 := Lib.hid hc0
  rw [hc0]
  obtain ⟨wb, hwb⟩ : ∃ wb, w.alloc (.cells #[.int .i64 who, .int .i64 9, .string m, .int .i64 big, .int .u64 c0, .int .i64 count] 74) = wb := ⟨_, rfl⟩
  have hqb : Fr (fun _ => False) w wb := by rw [← hwb]; exact Fr.alloc _ _ _
  have hbx : Bx10 w.heap.size who 9 m big c0 count wb := by rw [← hwb]; exact Bx10.of (alloc_new _ _)
  have HL := Lib.hid h.lts
  have HQB := Lib.hid hqb
  have HBX := Lib.hid hbx
  have HNF : Hid (¬ F w.heap.size) := fun e => by have := (h.lts.1 _ e).2; omega
  have HSZ : Hid (w.heap.size < wb.heap.size) := by show w.heap.size < _; rw [← hwb]; simp
  have H := Lib.hid (h.quiet hqb)
  have HLB := Lib.hid (h.quiet hqb).lts
  have hb1 := hb.1
  clear h hqb hbx hc0
  obtain ⟨q, hq⟩ : ∃ q : Nat, min (max count 0) 60 = (q : Int) := ⟨(min (max count 0) 60).toNat, by omega⟩
  have hq60 : q ≤ 60 := by omega
  obtain ⟨b0, b1, b2, b3, b4, b5⟩ := HBX.out
  go_enter Try.func38, Try.ntmps38
  go_wp2_with fail
  try rw [hwb]
  try clear hwb
  go_loopw [155] (fun i wr => ∃ k : Nat, i = .int .i64 k ∧ k ≤ q ∧ Hid (BoTo w0 wb F r mr wr)) (fun i _ => q - (intOf i).toNat)
  case atStart => exact ⟨0, rfl, by omega, H.out.stay (Fr.refl _ _)⟩
  case round =>
    obtain ⟨k, rfl, hk, HT⟩ := hrel
    obtain ⟨wo, rfl⟩ : ∃ wo, wo = wr := ⟨_, rfl⟩
    obtain ⟨A', hbo, hfr⟩ := HT.out
    have HBO := Lib.hid hbo
    have HFR := Lib.hid hfr
    clear b0 b1 b2 b3 b4 b5
    obtain ⟨b0, b1, b2, b3, b4, b5⟩ := HBX.out.fr hfr HNF.out
    clear hbo hfr
    by_cases hlt : k < q
    · have hkb : (UInt8.ofNat k).toNat = k := by rw [UInt8.toNat_ofNat']; omega
      have e1 : IntKind.u8.wrap (k : Int) = (k : Int) := by rw [IntKind.wrap_u8]; omega
      have hu : u8 (UInt8.ofNat k) = .int .u8 (k : Int) := by unfold u8; rw [hkb]
      have hrd : RdC (wo.alloc (.cells #[.int .u8 (k : Int)] 5)) 1 (.slice (some ⟨wo.heap.size, 0, none⟩) 1 1) [UInt8.ofNat k].length ([UInt8.ofNat k].map u8) := by
        rw [List.map_cons, hu]
        exact RdC.of_owns (World.ownsRow_lit (base := wo.heap.size) (e := 5) (size := 1) wo #[.int .u8 (k : Int)] 1 (Nat.le_refl _) (by decide) rfl)
      have HRD := Lib.hid hrd
      obtain ⟨key, hkey⟩ : ∃ key : ByteArray, m ++ ⟨[UInt8.ofNat k].toArray⟩ = key := ⟨_, rfl⟩
      have hz1 : (⟨[UInt8.ofNat k].toArray⟩ : ByteArray).size = 1 := rfl
      have hks : key.size ≤ maxLen := by rw [← hkey, ByteArray.size_append, hz1]; unfold maxLen; omega
      obtain ⟨b, hA⟩ := bo_del (HBO.out.quiet (Fr.alloc _ wo (.cells #[.int .u8 (k : Int)] 5))) key hks
      have HA := Lib.hid hA
      have HKEY := Lib.hid hkey
      have HQ1 : Hid (Fr (fun _ => False) wo (wo.alloc (.cells #[.int .u8 (k : Int)] 5))) := Fr.alloc _ _ _
      have HZ1 := Lib.hid hz1
      have b7 : (k : Int) < (q : Int) := by omega
      clear hkb hu hrd hkey hA hz1 HT
      go_wp2_with (first | (refine wpl_toString rfl (.tmp 162) 109 9 5 rfl _ [UInt8.ofNat k] rfl Try.underlying109 Try.underlying9 Try.underlying5 HRD.out ?_) | (refine wpl_concat10 rfl (.tmp 159) (.tmp 163) 9 9 rfl m ⟨[UInt8.ofNat k].toArray⟩ rfl rfl (by rw [HZ1.out]; omega) ?_; rw [HKEY.out]))
      refine HA.out.mono ?_
      rintro e w2 ⟨rfl, hf2, hn⟩
      have HF2 := Lib.hid hf2
      have HN3 := Lib.hid (hn w2 (Fr.refl _ _))
      clear hf2 hn b0 b1 b2 b3 b4 b5
      go_wp2_with fail
      refine HN3.out.mono ?_
      rintro e w4 ⟨rfl, hb4⟩
      have HB4 : Hid (BoTo w0 wb F r mr w4) := BoTo.two HLB.out.1 HLB.out.2.size HFR.out (BoTo.pre HBO.out.lts.1 HBO.out.lts.2.size HQ1.out hb4)
      clear hb4
      have g0 : (b == b) = true := beq_self_eq_true _
      have g1 : (b != b) = false := by rw [bne, g0]; rfl
      go_wp2_with fail
      go_roundw
      case rel => exact ⟨k + 1, by go_num, by omega, HB4⟩
      case measure => simp [intOf]; omega
    · obtain rfl : k = q := by omega
      go_wp2_with fail
      go_ret
      exact ⟨rfl, BoTo.pre HL.out.1 HL.out.2.size HQB.out HT.out⟩
theorem plays_any (h : Bo w0 w F r mr A) (who do_ : Int) (m : ByteArray) (big : Int) (n : UInt64) (count : Int) (hb : InI big) (hc : InI count) (hm : m.size ≤ 140737488355328) :
    Calls Try.prog 38 #[.pointer (some ⟨r, 0, none⟩), .pointer (some ⟨mr, 0, none⟩), .agg #[.int .i64 who, .int .i64 do_, .string m, .int .i64 big, .int .u64 (wd n), .int .i64 count]] w fun e w' => e = .returned (.bool true) ∧ BoTo w0 w F r mr w' := by
  by_cases hd : do_ < 0 ∨ 10 < do_
  · exact plays_else h who do_ m big n count hd hb hc hm
  · have h11 : do_ = 0 ∨ do_ = 1 ∨ do_ = 2 ∨ do_ = 3 ∨ do_ = 4 ∨ do_ = 5 ∨ do_ = 6 ∨ do_ = 7 ∨ do_ = 8 ∨ do_ = 9 ∨ do_ = 10 := by omega
    rcases h11 with rfl | rfl | rfl | rfl | rfl | rfl | rfl | rfl | rfl | rfl | rfl
    · exact plays_add0 h who m big n count hb hc hm
    · exact plays_add1 h who m big n count hb hc hm
    · exact plays_add2 h who m big n count hb hc hm
    · exact plays_del3 h who m big n count hb hc hm
    · exact plays_del4 h who m big n count hb hc hm
    · exact plays_has5 h who m big n count hb hc hm
    · exact plays_sample6 h who m big n count hb hc hm
    · exact plays_scan7 h who m big n count hb hc hm
    · exact plays_many8 h who m big n count hb hc hm
    · exact plays_many9 h who m big n count hb hc hm
    · exact plays_stand10 h who m big n count hb hc hm
end
end Go.Proofs.Ytgomilodeaafdaa
namespace Go.Proofs.Ytgomilodeaafdaa
open Go.ChangeShapes Go.WideShapes Go.ChangeAt Go.RowKit Du
theorem rd_nil10 (w : World) : RdC w 1 (.slice none 0 0) ([] : List ByteArray).length (([] : List ByteArray).map .string) := RdC.nil w 1
set_option maxRecDepth 100000 in
set_option maxHeartbeats 2000000 in
theorem stands_nil (w : World) : Calls Try.prog 39 #[.pointer none, .pointer none] w fun e w' => e = .returned (.bool true) ∧ Fr (fun _ => False) w w' := by
  have HS := fun w => Lib.hid (same10_any w _ _ [] [] (rd_nil10 w) (rd_nil10 w))
  rw [decide_eq_true rfl] at HS
  have HSP := fun w => Lib.hid (spoil10_any w w.heap.size _ 0 _ (World.ownsRow_nil w _ _ _) (by omega) (Nat.le_refl _))
  have g1 : ((0 : Int) == (0 : Int)) = true := beq_self_eq_true _
  have g3 : ((0 : Int) != (0 : Int)) = false := by rw [bne, g1]; rfl
  go_enter Try.func39, Try.ntmps39
  go_wp2_with fail
  refine (members_nil w).mono ?_
  rintro e w' ⟨rfl, rfl⟩
  go_wp2_with fail
  refine (members_nil w).mono ?_
  rintro e w' ⟨rfl, rfl⟩
  go_wp2_with fail
  refine (rfMembers_nil w).mono ?_
  rintro e w' ⟨rfl, rfl⟩
  go_wp2_with fail
  refine (floLen_nil w).mono ?_
  rintro e w' ⟨rfl, rfl⟩
  go_wp2_with fail
  refine (rfLen_nil w).mono ?_
  rintro e w' ⟨rfl, rfl⟩
  go_wp2_with fail
  refine (floCost_nil w).mono ?_
  rintro e w' ⟨rfl, rfl⟩
  go_wp2_with fail
  refine (rfCost_nil w).mono ?_
  rintro e w' ⟨rfl, rfl⟩
  go_wp2_with fail
  refine (HS _).out.mono ?_
  rintro e w1 ⟨rfl, m1, hm1⟩
  have HF1 : Hid (Fr (fun _ => False) w w1) := by rw [hm1]; exact Fr.drewN _ _ _
  clear hm1
  go_wp2_with fail
  refine (HS _).out.mono ?_
  rintro e w2 ⟨rfl, m2, hm2⟩
  have HF2 : Hid (Fr (fun _ => False) w w2) := by rw [hm2]; exact HF1.out.thenDrewN _
  clear hm2
  go_wp2_with fail
  refine (HSP _).out.mono ?_
  rintro e w3 ⟨rfl, hf3⟩
  have HF3 : Hid (Fr (fun _ => False) w w3) := HF2.out.trans hf3 (fun _ h _ => by cases h)
  clear hf3
  go_wp2_with fail
  refine (HS _).out.mono ?_
  rintro e w4 ⟨rfl, m4, hm4⟩
  have HF4 : Hid (Fr (fun _ => False) w w4) := by rw [hm4]; exact HF3.out.thenDrewN _
  clear hm4
  go_wp2_with fail
  refine (members_nil w4).mono ?_
  rintro e w' ⟨rfl, rfl⟩
  go_wp2_with fail
  refine (HS _).out.mono ?_
  rintro e w5 ⟨rfl, m5, hm5⟩
  have HF5 : Hid (Fr (fun _ => False) w w5) := by rw [hm5]; exact HF4.out.thenDrewN _
  clear hm5
  go_wp2_with fail
  go_ret
  exact ⟨rfl, HF5.out⟩
set_option maxRecDepth 100000 in
set_option maxHeartbeats 2000000 in
theorem scans_nil (w : World) (c count : Int) : Calls Try.prog 40 #[.pointer none, .pointer none, .int .u64 c, .int .i64 count] w fun e w' => e = .returned (.bool true) ∧ Fr (fun _ => False) w w' := by
  have HS := fun w => Lib.hid (same10_any w _ _ [] [] (rd_nil10 w) (rd_nil10 w))
  rw [decide_eq_true rfl] at HS
  have HSP := fun w => Lib.hid (spoil10_any w w.heap.size _ 0 _ (World.ownsRow_nil w _ _ _) (by omega) (Nat.le_refl _))
  have g1 : ((0 : Int) == (0 : Int)) = true := beq_self_eq_true _
  have g3 : ((0 : Int) != (0 : Int)) = false := by rw [bne, g1]; rfl
  go_enter Try.func40, Try.ntmps40
  go_wp2_with fail
  go_loopw [2, 13] (fun cu i wr => cu = .int .u64 c ∧ i = .int .i64 0 ∧ Hid (Fr (fun _ => False) w wr)) (fun _ _ _ => 0)
  case atStart => exact ⟨rfl, rfl, Fr.refl _ _⟩
  case round =>
    obtain ⟨rfl, rfl, HF⟩ := hrel
    obtain ⟨wo, rfl⟩ : ∃ wo, wo = wr := ⟨_, rfl⟩
    go_wp2_with fail
    refine (floScan_nil c count wo).mono ?_
    rintro e w' ⟨rfl, rfl⟩
    go_wp2_with fail
    refine (rfScan_nil wo c count).mono ?_
    rintro e w' ⟨rfl, rfl⟩
    go_wp2_with fail
    refine (HS _).out.mono ?_
    rintro e w2 ⟨rfl, m2, hm2⟩
    have HF2 : Hid (Fr (fun _ => False) w w2) := by rw [hm2]; exact HF.out.thenDrewN _
    clear hm2
    go_wp2_with fail
    refine (HSP _).out.mono ?_
    rintro e w3 ⟨rfl, hf3⟩
    have HF3 : Hid (Fr (fun _ => False) w w3) := HF2.out.trans hf3 (fun _ h _ => by cases h)
    clear hf3
    go_wp2_with fail
    go_ret
    exact ⟨rfl, HF3.out⟩
set_option maxRecDepth 100000 in
set_option maxHeartbeats 2000000 in
theorem plays_nil0 (w : World) (who : Int) (m : ByteArray) (big : Int) (n : UInt64) (count : Int) (hb : InI big) (hm : m.size ≤ 140737488355328) :
    Calls Try.prog 38 #[.pointer none, .pointer none, .agg #[.int .i64 who, .int .i64 0, .string m, .int .i64 big, .int .u64 (wd n), .int .i64 count]] w fun e w' => e = .returned (.bool true) ∧ Fr (fun _ => False) w w' := by
  obtain ⟨c0, hc0⟩ : ∃ c0, wd n = c0 := ⟨_, rfl⟩
  have HC0 := Lib.hid hc0
  rw [hc0]
  obtain ⟨wb, hwb⟩ : ∃ wb, w.alloc (.cells #[.int .i64 who, .int .i64 0, .string m, .int .i64 big, .int .u64 c0, .int .i64 count] 74) = wb := ⟨_, rfl⟩
  have hqb : Fr (fun _ => False) w wb := by rw [← hwb]; exact Fr.alloc _ _ _
  have hbx : Bx10 w.heap.size who 0 m big c0 count wb := by rw [← hwb]; exact Bx10.of (alloc_new _ _)
  have HQB := Lib.hid hqb
  have HBX := Lib.hid hbx
  have HSZ : Hid (w.heap.size < wb.heap.size) := by show w.heap.size < _; rw [← hwb]; simp
  have hb1 := hb.1
  clear hqb hbx hc0
  have g1 : (false == false) = true := rfl
  have g2 : ((1 : Int) == 1) = true := rfl
  obtain ⟨b0, b1, b2, b3, b4, b5⟩ := HBX.out
  go_enter Try.func38, Try.ntmps38
  go_wp2_with fail
  try rw [hwb]
  try clear hwb
  refine (member_any wb who 0 m big c0 count hm hb1).mono ?_
  rintro e w1 ⟨rfl, hf1⟩
  have HF1 := Lib.hid hf1
  obtain ⟨key, hkey⟩ : ∃ k, memS m big = k := ⟨_, rfl⟩
  have HK := Lib.hid hkey
  rw [hkey]
  clear hkey hf1 b0 b1 b2 b3 b4 b5
  obtain ⟨b0, b1, b2, b3, b4, b5⟩ := HBX.out.fr HF1.out (fun h => h)
  go_wp2_with fail
  refine (rfAdd_nil w1 key).mono ?_
  rintro e w' ⟨rfl, rfl⟩
  go_wp2_with fail
  refine (member_any w1 who 0 m big c0 count hm hb1).mono ?_
  rintro e w3 ⟨rfl, hf3⟩
  have HF3 := Lib.hid (HF1.out.trans hf3 (fun _ h _ => h))
  rw [HK.out]
  clear hf3 b0 b1 b2 b3 b4 b5
  go_wp2_with fail
  refine (floAdd_nil w3 key).mono ?_
  rintro e w' ⟨rfl, rfl⟩
  go_wp2_with fail
  go_ret
  exact ⟨rfl, HQB.out.trans HF3.out (fun _ h _ => h)⟩
set_option maxRecDepth 100000 in
set_option maxHeartbeats 2000000 in
theorem plays_nil1 (w : World) (who : Int) (m : ByteArray) (big : Int) (n : UInt64) (count : Int) (hb : InI big) (hm : m.size ≤ 140737488355328) :
    Calls Try.prog 38 #[.pointer none, .pointer none, .agg #[.int .i64 who, .int .i64 1, .string m, .int .i64 big, .int .u64 (wd n), .int .i64 count]] w fun e w' => e = .returned (.bool true) ∧ Fr (fun _ => False) w w' := by
  obtain ⟨c0, hc0⟩ : ∃ c0, wd n = c0 := ⟨_, rfl⟩
  have HC0 := Lib.hid hc0
  rw [hc0]
  obtain ⟨wb, hwb⟩ : ∃ wb, w.alloc (.cells #[.int .i64 who, .int .i64 1, .string m, .int .i64 big, .int .u64 c0, .int .i64 count] 74) = wb := ⟨_, rfl⟩
  have hqb : Fr (fun _ => False) w wb := by rw [← hwb]; exact Fr.alloc _ _ _
  have hbx : Bx10 w.heap.size who 1 m big c0 count wb := by rw [← hwb]; exact Bx10.of (alloc_new _ _)
  have HQB := Lib.hid hqb
  have HBX := Lib.hid hbx
  have HSZ : Hid (w.heap.size < wb.heap.size) := by show w.heap.size < _; rw [← hwb]; simp
  have hb1 := hb.1
  clear hqb hbx hc0
  have g1 : (false == false) = true := rfl
  have g2 : ((1 : Int) == 1) = true := rfl
  obtain ⟨b0, b1, b2, b3, b4, b5⟩ := HBX.out
  go_enter Try.func38, Try.ntmps38
  go_wp2_with fail
  try rw [hwb]
  try clear hwb
  refine (member_any wb who 1 m big c0 count hm hb1).mono ?_
  rintro e w1 ⟨rfl, hf1⟩
  have HF1 := Lib.hid hf1
  obtain ⟨key, hkey⟩ : ∃ k, memS m big = k := ⟨_, rfl⟩
  have HK := Lib.hid hkey
  rw [hkey]
  clear hkey hf1 b0 b1 b2 b3 b4 b5
  obtain ⟨b0, b1, b2, b3, b4, b5⟩ := HBX.out.fr HF1.out (fun h => h)
  go_wp2_with fail
  refine (rfAdd_nil w1 key).mono ?_
  rintro e w' ⟨rfl, rfl⟩
  go_wp2_with fail
  refine (member_any w1 who 1 m big c0 count hm hb1).mono ?_
  rintro e w3 ⟨rfl, hf3⟩
  have HF3 := Lib.hid (HF1.out.trans hf3 (fun _ h _ => h))
  rw [HK.out]
  clear hf3 b0 b1 b2 b3 b4 b5
  go_wp2_with fail
  refine (floAdd_nil w3 key).mono ?_
  rintro e w' ⟨rfl, rfl⟩
  go_wp2_with fail
  go_ret
  exact ⟨rfl, HQB.out.trans HF3.out (fun _ h _ => h)⟩
set_option maxRecDepth 100000 in
set_option maxHeartbeats 2000000 in
theorem plays_nil2 (w : World) (who : Int) (m : ByteArray) (big : Int) (n : UInt64) (count : Int) (hb : InI big) (hm : m.size ≤ 140737488355328) :
    Calls Try.prog 38 #[.pointer none, .pointer none, .agg #[.int .i64 who, .int .i64 2, .string m, .int .i64 big, .int .u64 (wd n), .int .i64 count]] w fun e w' => e = .returned (.bool true) ∧ Fr (fun _ => False) w w' := by
  obtain ⟨c0, hc0⟩ : ∃ c0, wd n = c0 := ⟨_, rfl⟩
  have HC0 := Lib.hid hc0
  rw [hc0]
  obtain ⟨wb, hwb⟩ : ∃ wb, w.alloc (.cells #[.int .i64 who, .int .i64 2, .string m, .int .i64 big, .int .u64 c0, .int .i64 count] 74) = wb := ⟨_, rfl⟩
  have hqb : Fr (fun _ => False) w wb := by rw [← hwb]; exact Fr.alloc _ _ _
  have hbx : Bx10 w.heap.size who 2 m big c0 count wb := by rw [← hwb]; exact Bx10.of (alloc_new _ _)
  have HQB := Lib.hid hqb
  have HBX := Lib.hid hbx
  have HSZ : Hid (w.heap.size < wb.heap.size) := by show w.heap.size < _; rw [← hwb]; simp
  have hb1 := hb.1
  clear hqb hbx hc0
  have g1 : (false == false) = true := rfl
  have g2 : ((1 : Int) == 1) = true := rfl
  obtain ⟨b0, b1, b2, b3, b4, b5⟩ := HBX.out
  go_enter Try.func38, Try.ntmps38
  go_wp2_with fail
  try rw [hwb]
  try clear hwb
  refine (member_any wb who 2 m big c0 count hm hb1).mono ?_
  rintro e w1 ⟨rfl, hf1⟩
  have HF1 := Lib.hid hf1
  obtain ⟨key, hkey⟩ : ∃ k, memS m big = k := ⟨_, rfl⟩
  have HK := Lib.hid hkey
  rw [hkey]
  clear hkey hf1 b0 b1 b2 b3 b4 b5
  obtain ⟨b0, b1, b2, b3, b4, b5⟩ := HBX.out.fr HF1.out (fun h => h)
  go_wp2_with fail
  refine (rfAdd_nil w1 key).mono ?_
  rintro e w' ⟨rfl, rfl⟩
  go_wp2_with fail
  refine (member_any w1 who 2 m big c0 count hm hb1).mono ?_
  rintro e w3 ⟨rfl, hf3⟩
  have HF3 := Lib.hid (HF1.out.trans hf3 (fun _ h _ => h))
  rw [HK.out]
  clear hf3 b0 b1 b2 b3 b4 b5
  go_wp2_with fail
  refine (floAdd_nil w3 key).mono ?_
  rintro e w' ⟨rfl, rfl⟩
  go_wp2_with fail
  go_ret
  exact ⟨rfl, HQB.out.trans HF3.out (fun _ h _ => h)⟩
set_option maxRecDepth 100000 in
set_option maxHeartbeats 2000000 in
theorem plays_nil3 (w : World) (who : Int) (m : ByteArray) (big : Int) (n : UInt64) (count : Int) (hb : InI big) (hm : m.size ≤ 140737488355328) :
    Calls Try.prog 38 #[.pointer none, .pointer none, .agg #[.int .i64 who, .int .i64 3, .string m, .int .i64 big, .int .u64 (wd n), .int .i64 count]] w fun e w' => e = .returned (.bool true) ∧ Fr (fun _ => False) w w' := by
  obtain ⟨c0, hc0⟩ : ∃ c0, wd n = c0 := ⟨_, rfl⟩
  have HC0 := Lib.hid hc0
  rw [hc0]
  obtain ⟨wb, hwb⟩ : ∃ wb, w.alloc (.cells #[.int .i64 who, .int .i64 3, .string m, .int .i64 big, .int .u64 c0, .int .i64 count] 74) = wb := ⟨_, rfl⟩
  have hqb : Fr (fun _ => False) w wb := by rw [← hwb]; exact Fr.alloc _ _ _
  have hbx : Bx10 w.heap.size who 3 m big c0 count wb := by rw [← hwb]; exact Bx10.of (alloc_new _ _)
  have HQB := Lib.hid hqb
  have HBX := Lib.hid hbx
  have HSZ : Hid (w.heap.size < wb.heap.size) := by show w.heap.size < _; rw [← hwb]; simp
  have hb1 := hb.1
  clear hqb hbx hc0
  have g1 : (false == false) = true := rfl
  obtain ⟨b0, b1, b2, b3, b4, b5⟩ := HBX.out
  go_enter Try.func38, Try.ntmps38
  go_wp2_with fail
  try rw [hwb]
  try clear hwb
  refine (member_any wb who 3 m big c0 count hm hb1).mono ?_
  rintro e w1 ⟨rfl, hf1⟩
  have HF1 := Lib.hid hf1
  obtain ⟨key, hkey⟩ : ∃ k, memS m big = k := ⟨_, rfl⟩
  have HK := Lib.hid hkey
  rw [hkey]
  clear hkey hf1 b0 b1 b2 b3 b4 b5
  obtain ⟨b0, b1, b2, b3, b4, b5⟩ := HBX.out.fr HF1.out (fun h => h)
  go_wp2_with fail
  refine (rfDel_nil w1 key).mono ?_
  rintro e w' ⟨rfl, rfl⟩
  go_wp2_with fail
  refine (member_any w1 who 3 m big c0 count hm hb1).mono ?_
  rintro e w3 ⟨rfl, hf3⟩
  have HF3 := Lib.hid (HF1.out.trans hf3 (fun _ h _ => h))
  rw [HK.out]
  clear hf3 b0 b1 b2 b3 b4 b5
  go_wp2_with fail
  refine (floDel_nil key w3).mono ?_
  rintro e w' ⟨rfl, rfl⟩
  go_wp2_with fail
  go_ret
  exact ⟨rfl, HQB.out.trans HF3.out (fun _ h _ => h)⟩
set_option maxRecDepth 100000 in
set_option maxHeartbeats 2000000 in
theorem plays_nil4 (w : World) (who : Int) (m : ByteArray) (big : Int) (n : UInt64) (count : Int) (hb : InI big) (hm : m.size ≤ 140737488355328) :
    Calls Try.prog 38 #[.pointer none, .pointer none, .agg #[.int .i64 who, .int .i64 4, .string m, .int .i64 big, .int .u64 (wd n), .int .i64 count]] w fun e w' => e = .returned (.bool true) ∧ Fr (fun _ => False) w w' := by
  obtain ⟨c0, hc0⟩ : ∃ c0, wd n = c0 := ⟨_, rfl⟩
  have HC0 := Lib.hid hc0
  rw [hc0]
  obtain ⟨wb, hwb⟩ : ∃ wb, w.alloc (.cells #[.int .i64 who, .int .i64 4, .string m, .int .i64 big, .int .u64 c0, .int .i64 count] 74) = wb := ⟨_, rfl⟩
  have hqb : Fr (fun _ => False) w wb := by rw [← hwb]; exact Fr.alloc _ _ _
  have hbx : Bx10 w.heap.size who 4 m big c0 count wb := by rw [← hwb]; exact Bx10.of (alloc_new _ _)
  have HQB := Lib.hid hqb
  have HBX := Lib.hid hbx
  have HSZ : Hid (w.heap.size < wb.heap.size) := by show w.heap.size < _; rw [← hwb]; simp
  have hb1 := hb.1
  clear hqb hbx hc0
  have g1 : (false == false) = true := rfl
  obtain ⟨b0, b1, b2, b3, b4, b5⟩ := HBX.out
  go_enter Try.func38, Try.ntmps38
  go_wp2_with fail
  try rw [hwb]
  try clear hwb
  refine (member_any wb who 4 m big c0 count hm hb1).mono ?_
  rintro e w1 ⟨rfl, hf1⟩
  have HF1 := Lib.hid hf1
  obtain ⟨key, hkey⟩ : ∃ k, memS m big = k := ⟨_, rfl⟩
  have HK := Lib.hid hkey
  rw [hkey]
  clear hkey hf1 b0 b1 b2 b3 b4 b5
  obtain ⟨b0, b1, b2, b3, b4, b5⟩ := HBX.out.fr HF1.out (fun h => h)
  go_wp2_with fail
  refine (rfDel_nil w1 key).mono ?_
  rintro e w' ⟨rfl, rfl⟩
  go_wp2_with fail
  refine (member_any w1 who 4 m big c0 count hm hb1).mono ?_
  rintro e w3 ⟨rfl, hf3⟩
  have HF3 := Lib.hid (HF1.out.trans hf3 (fun _ h _ => h))
  rw [HK.out]
  clear hf3 b0 b1 b2 b3 b4 b5
  go_wp2_with fail
  refine (floDel_nil key w3).mono ?_
  rintro e w' ⟨rfl, rfl⟩
  go_wp2_with fail
  go_ret
  exact ⟨rfl, HQB.out.trans HF3.out (fun _ h _ => h)⟩
set_option maxRecDepth 100000 in
set_option maxHeartbeats 2000000 in
theorem plays_nil5 (w : World) (who : Int) (m : ByteArray) (big : Int) (n : UInt64) (count : Int) (hb : InI big) (hm : m.size ≤ 140737488355328) :
    Calls Try.prog 38 #[.pointer none, .pointer none, .agg #[.int .i64 who, .int .i64 5, .string m, .int .i64 big, .int .u64 (wd n), .int .i64 count]] w fun e w' => e = .returned (.bool true) ∧ Fr (fun _ => False) w w' := by
  obtain ⟨c0, hc0⟩ : ∃ c0, wd n = c0 := ⟨_, rfl⟩
  have HC0 := Lib.hid hc0
  rw [hc0]
  obtain ⟨wb, hwb⟩ : ∃ wb, w.alloc (.cells #[.int .i64 who, .int .i64 5, .string m, .int .i64 big, .int .u64 c0, .int .i64 count] 74) = wb := ⟨_, rfl⟩
  have hqb : Fr (fun _ => False) w wb := by rw [← hwb]; exact Fr.alloc _ _ _
  have hbx : Bx10 w.heap.size who 5 m big c0 count wb := by rw [← hwb]; exact Bx10.of (alloc_new _ _)
  have HQB := Lib.hid hqb
  have HBX := Lib.hid hbx
  have HSZ : Hid (w.heap.size < wb.heap.size) := by show w.heap.size < _; rw [← hwb]; simp
  have hb1 := hb.1
  clear hqb hbx hc0
  have g1 : (false == false) = true := rfl
  obtain ⟨b0, b1, b2, b3, b4, b5⟩ := HBX.out
  go_enter Try.func38, Try.ntmps38
  go_wp2_with fail
  try rw [hwb]
  try clear hwb
  refine (member_any wb who 5 m big c0 count hm hb1).mono ?_
  rintro e w1 ⟨rfl, hf1⟩
  have HF1 := Lib.hid hf1
  obtain ⟨key, hkey⟩ : ∃ k, memS m big = k := ⟨_, rfl⟩
  have HK := Lib.hid hkey
  rw [hkey]
  clear hkey hf1 b0 b1 b2 b3 b4 b5
  obtain ⟨b0, b1, b2, b3, b4, b5⟩ := HBX.out.fr HF1.out (fun h => h)
  go_wp2_with fail
  refine (rfHas_nil w1 key).mono ?_
  rintro e w' ⟨rfl, rfl⟩
  go_wp2_with fail
  refine (member_any w1 who 5 m big c0 count hm hb1).mono ?_
  rintro e w3 ⟨rfl, hf3⟩
  have HF3 := Lib.hid (HF1.out.trans hf3 (fun _ h _ => h))
  rw [HK.out]
  clear hf3 b0 b1 b2 b3 b4 b5
  go_wp2_with fail
  refine (floHas_nil key w3).mono ?_
  rintro e w' ⟨rfl, rfl⟩
  go_wp2_with fail
  go_ret
  exact ⟨rfl, HQB.out.trans HF3.out (fun _ h _ => h)⟩
set_option maxRecDepth 100000 in
set_option maxHeartbeats 2000000 in
theorem plays_nil6 (w : World) (who : Int) (m : ByteArray) (big : Int) (n : UInt64) (count : Int) (hb : InI big) (hm : m.size ≤ 140737488355328) :
    Calls Try.prog 38 #[.pointer none, .pointer none, .agg #[.int .i64 who, .int .i64 6, .string m, .int .i64 big, .int .u64 (wd n), .int .i64 count]] w fun e w' => e = .returned (.bool true) ∧ Fr (fun _ => False) w w' := by
  obtain ⟨c0, hc0⟩ : ∃ c0, wd n = c0 := ⟨_, rfl⟩
  have HC0 := Lib.hid hc0
  rw [hc0]
  obtain ⟨wb, hwb⟩ : ∃ wb, w.alloc (.cells #[.int .i64 who, .int .i64 6, .string m, .int .i64 big, .int .u64 c0, .int .i64 count] 74) = wb := ⟨_, rfl⟩
  have hqb : Fr (fun _ => False) w wb := by rw [← hwb]; exact Fr.alloc _ _ _
  have hbx : Bx10 w.heap.size who 6 m big c0 count wb := by rw [← hwb]; exact Bx10.of (alloc_new _ _)
  have HQB := Lib.hid hqb
  have HBX := Lib.hid hbx
  have HSZ : Hid (w.heap.size < wb.heap.size) := by show w.heap.size < _; rw [← hwb]; simp
  have hb1 := hb.1
  clear hqb hbx hc0
  have g1 : (false == false) = true := rfl
  obtain ⟨b0, b1, b2, b3, b4, b5⟩ := HBX.out
  go_enter Try.func38, Try.ntmps38
  go_wp2_with fail
  try rw [hwb]
  try clear hwb
  refine (rfSample_nil wb c0).mono ?_
  rintro e w' ⟨rfl, rfl⟩
  go_wp2_with fail
  refine (floSample_nil c0 wb).mono ?_
  rintro e w' ⟨rfl, rfl⟩
  go_wp2_with fail
  go_ret
  exact ⟨rfl, HQB.out⟩
set_option maxRecDepth 100000 in
set_option maxHeartbeats 2000000 in
theorem plays_nil7 (w : World) (who : Int) (m : ByteArray) (big : Int) (n : UInt64) (count : Int) (hb : InI big) (hm : m.size ≤ 140737488355328) :
    Calls Try.prog 38 #[.pointer none, .pointer none, .agg #[.int .i64 who, .int .i64 7, .string m, .int .i64 big, .int .u64 (wd n), .int .i64 count]] w fun e w' => e = .returned (.bool true) ∧ Fr (fun _ => False) w w' := by
  obtain ⟨c0, hc0⟩ : ∃ c0, wd n = c0 := ⟨_, rfl⟩
  have HC0 := Lib.hid hc0
  rw [hc0]
  obtain ⟨wb, hwb⟩ : ∃ wb, w.alloc (.cells #[.int .i64 who, .int .i64 7, .string m, .int .i64 big, .int .u64 c0, .int .i64 count] 74) = wb := ⟨_, rfl⟩
  have hqb : Fr (fun _ => False) w wb := by rw [← hwb]; exact Fr.alloc _ _ _
  have hbx : Bx10 w.heap.size who 7 m big c0 count wb := by rw [← hwb]; exact Bx10.of (alloc_new _ _)
  have HQB := Lib.hid hqb
  have HBX := Lib.hid hbx
  have HSZ : Hid (w.heap.size < wb.heap.size) := by show w.heap.size < _; rw [← hwb]; simp
  have hb1 := hb.1
  clear hqb hbx hc0
  obtain ⟨b0, b1, b2, b3, b4, b5⟩ := HBX.out
  go_enter Try.func38, Try.ntmps38
  go_wp2_with fail
  try rw [hwb]
  try clear hwb
  refine (scans_nil wb c0 count).mono ?_
  rintro e w1 ⟨rfl, hf1⟩
  have HF1 := Lib.hid (HQB.out.trans hf1 (fun _ h _ => h))
  clear hf1
  go_wp2_with fail
  go_ret
  exact ⟨rfl, HF1.out⟩
set_option maxRecDepth 100000 in
set_option maxHeartbeats 2000000 in
theorem plays_nil10 (w : World) (who : Int) (m : ByteArray) (big : Int) (n : UInt64) (count : Int) (hb : InI big) (hm : m.size ≤ 140737488355328) :
    Calls Try.prog 38 #[.pointer none, .pointer none, .agg #[.int .i64 who, .int .i64 10, .string m, .int .i64 big, .int .u64 (wd n), .int .i64 count]] w fun e w' => e = .returned (.bool true) ∧ Fr (fun _ => False) w w' := by
  obtain ⟨c0, hc0⟩ : ∃ c0, wd n = c0 := ⟨_, rfl⟩
  have HC0 := Lib.hid hc0
  rw [hc0]
  obtain ⟨wb, hwb⟩ : ∃ wb, w.alloc (.cells #[.int .i64 who, .int .i64 10, .string m, .int .i64 big, .int .u64 c0, .int .i64 count] 74) = wb := ⟨_, rfl⟩
  have hqb : Fr (fun _ => False) w wb := by rw [← hwb]; exact Fr.alloc _ _ _
  have hbx : Bx10 w.heap.size who 10 m big c0 count wb := by rw [← hwb]; exact Bx10.of (alloc_new _ _)
  have HQB := Lib.hid hqb
  have HBX := Lib.hid hbx
  have HSZ : Hid (w.heap.size < wb.heap.size) := by show w.heap.size < _; rw [← hwb]; simp
  have hb1 := hb.1
  clear hqb hbx hc0
  obtain ⟨b0, b1, b2, b3, b4, b5⟩ := HBX.out
  go_enter Try.func38, Try.ntmps38
  go_wp2_with fail
  try rw [hwb]
  try clear hwb
  refine (stands_nil wb).mono ?_
  rintro e w1 ⟨rfl, hf1⟩
  have HF1 := Lib.hid (HQB.out.trans hf1 (fun _ h _ => h))
  clear hf1
  go_wp2_with fail
  go_ret
  exact ⟨rfl, HF1.out⟩
set_option maxRecDepth 100000 in
set_option maxHeartbeats 2000000 in
theorem plays_nilelse (w : World) (who do_ : Int) (m : ByteArray) (big : Int) (n : UInt64) (count : Int) (hd : do_ < 0 ∨ 10 < do_) (hb : InI big) (hm : m.size ≤ 140737488355328) :
    Calls Try.prog 38 #[.pointer none, .pointer none, .agg #[.int .i64 who, .int .i64 do_, .string m, .int .i64 big, .int .u64 (wd n), .int .i64 count]] w fun e w' => e = .returned (.bool true) ∧ Fr (fun _ => False) w w' := by
  obtain ⟨c0, hc0⟩ : ∃ c0, wd n = c0 := ⟨_, rfl⟩
  have HC0 := Lib.hid hc0
  rw [hc0]
  obtain ⟨wb, hwb⟩ : ∃ wb, w.alloc (.cells #[.int .i64 who, .int .i64 do_, .string m, .int .i64 big, .int .u64 c0, .int .i64 count] 74) = wb := ⟨_, rfl⟩
  have hqb : Fr (fun _ => False) w wb := by rw [← hwb]; exact Fr.alloc _ _ _
  have hbx : Bx10 w.heap.size who do_ m big c0 count wb := by rw [← hwb]; exact Bx10.of (alloc_new _ _)
  have HQB := Lib.hid hqb
  have HBX := Lib.hid hbx
  have HSZ : Hid (w.heap.size < wb.heap.size) := by show w.heap.size < _; rw [← hwb]; simp
  have hb1 := hb.1
  clear hqb hbx hc0
  have e0 : (do_ == 0) = false := beq_eq_false_iff_ne.2 (by omega)
  have e1 : (do_ == 1) = false := beq_eq_false_iff_ne.2 (by omega)
  have e2 : (do_ == 2) = false := beq_eq_false_iff_ne.2 (by omega)
  have e3 : (do_ == 3) = false := beq_eq_false_iff_ne.2 (by omega)
  have e4 : (do_ == 4) = false := beq_eq_false_iff_ne.2 (by omega)
  have e5 : (do_ == 5) = false := beq_eq_false_iff_ne.2 (by omega)
  have e6 : (do_ == 6) = false := beq_eq_false_iff_ne.2 (by omega)
  have e7 : (do_ == 7) = false := beq_eq_false_iff_ne.2 (by omega)
  have e8 : (do_ == 8) = false := beq_eq_false_iff_ne.2 (by omega)
  have e9 : (do_ == 9) = false := beq_eq_false_iff_ne.2 (by omega)
  have e10 : (do_ == 10) = false := beq_eq_false_iff_ne.2 (by omega)
  obtain ⟨b0, b1, b2, b3, b4, b5⟩ := HBX.out
  go_enter Try.func38, Try.ntmps38
  go_wp2_with fail
  try rw [hwb]
  try clear hwb
  go_ret
  exact ⟨rfl, HQB.out⟩
set_option maxRecDepth 100000 in
set_option maxHeartbeats 2000000 in
theorem plays_nil8 (w : World) (who : Int) (m : ByteArray) (big : Int) (n : UInt64) (count : Int) (hb : InI big) (hm : m.size ≤ 140737488355328) :
    Calls Try.prog 38 #[.pointer none, .pointer none, .agg #[.int .i64 who, .int .i64 8, .string m, .int .i64 big, .int .u64 (wd n), .int .i64 count]] w fun e w' => e = .returned (.bool true) ∧ Fr (fun _ => False) w w' := by
  obtain ⟨c0, hc0⟩ : ∃ c0, wd n = c0 := ⟨_, rfl⟩
  have HC0 := Lib.hid hc0
  rw [hc0]
  obtain ⟨wb, hwb⟩ : ∃ wb, w.alloc (.cells #[.int .i64 who, .int .i64 8, .string m, .int .i64 big, .int .u64 c0, .int .i64 count] 74) = wb := ⟨_, rfl⟩
  have hqb : Fr (fun _ => False) w wb := by rw [← hwb]; exact Fr.alloc _ _ _
  have hbx : Bx10 w.heap.size who 8 m big c0 count wb := by rw [← hwb]; exact Bx10.of (alloc_new _ _)
  have HQB := Lib.hid hqb
  have HBX := Lib.hid hbx
  have HSZ : Hid (w.heap.size < wb.heap.size) := by show w.heap.size < _; rw [← hwb]; simp
  have hb1 := hb.1
  clear hqb hbx hc0
  obtain ⟨q, hq⟩ : ∃ q : Nat, min (max count 0) 60 = (q : Int) := ⟨(min (max count 0) 60).toNat, by omega⟩
  have hq60 : q ≤ 60 := by omega
  have g1 : (false != false) = false := rfl
  have g2 : ((1 : Int) != 1) = false := rfl
  obtain ⟨b0, b1, b2, b3, b4, b5⟩ := HBX.out
  go_enter Try.func38, Try.ntmps38
  go_wp2_with fail
  try rw [hwb]
  try clear hwb
  go_loopw [118] (fun i wr => ∃ k : Nat, i = .int .i64 k ∧ k ≤ q ∧ Hid (Fr (fun _ => False) wb wr)) (fun i _ => q - (intOf i).toNat)
  case atStart => exact ⟨0, rfl, by omega, Fr.refl _ _⟩
  case round =>
    obtain ⟨k, rfl, hk, HT⟩ := hrel
    obtain ⟨wo, rfl⟩ : ∃ wo, wo = wr := ⟨_, rfl⟩
    clear b0 b1 b2 b3 b4 b5
    obtain ⟨b0, b1, b2, b3, b4, b5⟩ := HBX.out.fr HT.out (fun h => h)
    by_cases hlt : k < q
    · have hkb : (UInt8.ofNat k).toNat = k := by rw [UInt8.toNat_ofNat']; omega
      have e1 : IntKind.u8.wrap (k : Int) = (k : Int) := by rw [IntKind.wrap_u8]; omega
      have hu : u8 (UInt8.ofNat k) = .int .u8 (k : Int) := by unfold u8; rw [hkb]
      have hrd : RdC (wo.alloc (.cells #[.int .u8 (k : Int)] 5)) 1 (.slice (some ⟨wo.heap.size, 0, none⟩) 1 1) [UInt8.ofNat k].length ([UInt8.ofNat k].map u8) := by
        rw [List.map_cons, hu]
        exact RdC.of_owns (World.ownsRow_lit (base := wo.heap.size) (e := 5) (size := 1) wo #[.int .u8 (k : Int)] 1 (Nat.le_refl _) (by decide) rfl)
      have HRD := Lib.hid hrd
      obtain ⟨key, hkey⟩ : ∃ key : ByteArray, m ++ ⟨[UInt8.ofNat k].toArray⟩ = key := ⟨_, rfl⟩
      have hz1 : (⟨[UInt8.ofNat k].toArray⟩ : ByteArray).size = 1 := rfl
      have HKEY := Lib.hid hkey
      have HQ1 : Hid (Fr (fun _ => False) wb (wo.alloc (.cells #[.int .u8 (k : Int)] 5))) := HT.out.trans (Fr.alloc _ _ _) (fun _ h _ => h)
      have HZ1 := Lib.hid hz1
      have b7 : (k : Int) < (q : Int) := by omega
      clear hkb hu hrd hkey hz1 HT
      go_wp2_with (first | (refine wpl_toString rfl (.tmp 125) 109 9 5 rfl _ [UInt8.ofNat k] rfl Try.underlying109 Try.underlying9 Try.underlying5 HRD.out ?_) | (refine wpl_concat10 rfl (.tmp 122) (.tmp 126) 9 9 rfl m ⟨[UInt8.ofNat k].toArray⟩ rfl rfl (by rw [HZ1.out]; omega) ?_; rw [HKEY.out]))
      obtain ⟨w2, hw2⟩ : ∃ w2, wo.alloc (.cells #[.int .u8 (k : Int)] 5) = w2 := ⟨_, rfl⟩
      rw [hw2] at HQ1
      try rw [hw2]
      clear hw2 HRD
      refine (rfAdd_nil _ key).mono ?_
      rintro e w' ⟨rfl, rfl⟩
      go_wp2_with fail
      refine (floAdd_nil _ key).mono ?_
      rintro e w' ⟨rfl, rfl⟩
      go_wp2_with fail
      go_roundw
      case rel => exact ⟨k + 1, by go_num, by omega, HQ1⟩
      case measure => simp [intOf]; omega
    · obtain rfl : k = q := by omega
      go_wp2_with fail
      go_ret
      exact ⟨rfl, HQB.out.trans HT.out (fun _ h _ => h)⟩
set_option maxRecDepth 100000 in
set_option maxHeartbeats 2000000 in
theorem plays_nil9 (w : World) (who : Int) (m : ByteArray) (big : Int) (n : UInt64) (count : Int) (hb : InI big) (hm : m.size ≤ 140737488355328) :
    Calls Try.prog 38 #[.pointer none, .pointer none, .agg #[.int .i64 who, .int .i64 9, .string m, .int .i64 big, .int .u64 (wd n), .int .i64 count]] w fun e w' => e = .returned (.bool true) ∧ Fr (fun _ => False) w w' := by
  obtain ⟨c0, hc0⟩ : ∃ c0, wd n = c0 := ⟨_, rfl⟩
  have HC0 := Lib.hid hc0
  rw [hc0]
  obtain ⟨wb, hwb⟩ : ∃ wb, w.alloc (.cells #[.int .i64 who, .int .i64 9, .string m, .int .i64 big, .int .u64 c0, .int .i64 count] 74) = wb := ⟨_, rfl⟩
  have hqb : Fr (fun _ => False) w wb := by rw [← hwb]; exact Fr.alloc _ _ _
  have hbx : Bx10 w.heap.size who 9 m big c0 count wb := by rw [← hwb]; exact Bx10.of (alloc_new _ _)
  have HQB := Lib.hid hqb
  have HBX := Lib.hid hbx
  have HSZ : Hid (w.heap.size < wb.heap.size) := by show w.heap.size < _; rw [← hwb]; simp
  have hb1 := hb.1
  clear hqb hbx hc0
  obtain ⟨q, hq⟩ : ∃ q : Nat, min (max count 0) 60 = (q : Int) := ⟨(min (max count 0) 60).toNat, by omega⟩
  have hq60 : q ≤ 60 := by omega
  have g1 : (false != false) = false := rfl
  obtain ⟨b0, b1, b2, b3, b4, b5⟩ := HBX.out
  go_enter Try.func38, Try.ntmps38
  go_wp2_with fail
  try rw [hwb]
  try clear hwb
  go_loopw [155] (fun i wr => ∃ k : Nat, i = .int .i64 k ∧ k ≤ q ∧ Hid (Fr (fun _ => False) wb wr)) (fun i _ => q - (intOf i).toNat)
  case atStart => exact ⟨0, rfl, by omega, Fr.refl _ _⟩
  case round =>
    obtain ⟨k, rfl, hk, HT⟩ := hrel
    obtain ⟨wo, rfl⟩ : ∃ wo, wo = wr := ⟨_, rfl⟩
    clear b0 b1 b2 b3 b4 b5
    obtain ⟨b0, b1, b2, b3, b4, b5⟩ := HBX.out.fr HT.out (fun h => h)
    by_cases hlt : k < q
    · have hkb : (UInt8.ofNat k).toNat = k := by rw [UInt8.toNat_ofNat']; omega
      have e1 : IntKind.u8.wrap (k : Int) = (k : Int) := by rw [IntKind.wrap_u8]; omega
      have hu : u8 (UInt8.ofNat k) = .int .u8 (k : Int) := by unfold u8; rw [hkb]
      have hrd : RdC (wo.alloc (.cells #[.int .u8 (k : Int)] 5)) 1 (.slice (some ⟨wo.heap.size, 0, none⟩) 1 1) [UInt8.ofNat k].length ([UInt8.ofNat k].map u8) := by
        rw [List.map_cons, hu]
        exact RdC.of_owns (World.ownsRow_lit (base := wo.heap.size) (e := 5) (size := 1) wo #[.int .u8 (k : Int)] 1 (Nat.le_refl _) (by decide) rfl)
      have HRD := Lib.hid hrd
      obtain ⟨key, hkey⟩ : ∃ key : ByteArray, m ++ ⟨[UInt8.ofNat k].toArray⟩ = key := ⟨_, rfl⟩
      have hz1 : (⟨[UInt8.ofNat k].toArray⟩ : ByteArray).size = 1 := rfl
      have HKEY := Lib.hid hkey
      have HQ1 : Hid (Fr (fun _ => False) wb (wo.alloc (.cells #[.int .u8 (k : Int)] 5))) := HT.out.trans (Fr.alloc _ _ _) (fun _ h _ => h)
      have HZ1 := Lib.hid hz1
      have b7 : (k : Int) < (q : Int) := by omega
      clear hkb hu hrd hkey hz1 HT
      go_wp2_with (first | (refine wpl_toString rfl (.tmp 162) 109 9 5 rfl _ [UInt8.ofNat k] rfl Try.underlying109 Try.underlying9 Try.underlying5 HRD.out ?_) | (refine wpl_concat10 rfl (.tmp 159) (.tmp 163) 9 9 rfl m ⟨[UInt8.ofNat k].toArray⟩ rfl rfl (by rw [HZ1.out]; omega) ?_; rw [HKEY.out]))
      obtain ⟨w2, hw2⟩ : ∃ w2, wo.alloc (.cells #[.int .u8 (k : Int)] 5) = w2 := ⟨_, rfl⟩
      rw [hw2] at HQ1
      try rw [hw2]
      clear hw2 HRD
      refine (rfDel_nil _ key).mono ?_
      rintro e w' ⟨rfl, rfl⟩
      go_wp2_with fail
      refine (floDel_nil key _).mono ?_
      rintro e w' ⟨rfl, rfl⟩
      go_wp2_with fail
      go_roundw
      case rel => exact ⟨k + 1, by go_num, by omega, HQ1⟩
      case measure => simp [intOf]; omega
    · obtain rfl : k = q := by omega
      go_wp2_with fail
      go_ret
      exact ⟨rfl, HQB.out.trans HT.out (fun _ h _ => h)⟩
theorem plays_nil (w : World) (who do_ : Int) (m : ByteArray) (big : Int) (n : UInt64) (count : Int) (hb : InI big) (hm : m.size ≤ 140737488355328) :
    Calls Try.prog 38 #[.pointer none, .pointer none, .agg #[.int .i64 who, .int .i64 do_, .string m, .int .i64 big, .int .u64 (wd n), .int .i64 count]] w fun e w' => e = .returned (.bool true) ∧ Fr (fun _ => False) w w' := by
  by_cases hd : do_ < 0 ∨ 10 < do_
  · exact plays_nilelse w who do_ m big n count hd hb hm
  · have h11 : do_ = 0 ∨ do_ = 1 ∨ do_ = 2 ∨ do_ = 3 ∨ do_ = 4 ∨ do_ = 5 ∨ do_ = 6 ∨ do_ = 7 ∨ do_ = 8 ∨ do_ = 9 ∨ do_ = 10 := by omega
    rcases h11 with rfl | rfl | rfl | rfl | rfl | rfl | rfl | rfl | rfl | rfl | rfl
    · exact plays_nil0 w who m big n count hb hm
    · exact plays_nil1 w who m big n count hb hm
    · exact plays_nil2 w who m big n count hb hm
    · exact plays_nil3 w who m big n count hb hm
    · exact plays_nil4 w who m big n count hb hm
    · exact plays_nil5 w who m big n count hb hm
    · exact plays_nil6 w who m big n count hb hm
    · exact plays_nil7 w who m big n count hb hm
    · exact plays_nil8 w who m big n count hb hm
    · exact plays_nil9 w who m big n count hb hm
    · exact plays_nil10 w who m big n count hb hm
end Go.Proofs.Ytgomilodeaafdaa
