/- A part of the proof that the row of the law holds of the program as translated: lemmas and contracts of its functions. -/
import Derived.Test.YtbigpfenlmfhgaaGvG
set_option linter.unusedVariables false
set_option linter.unusedSimpArgs false
namespace Go.GV
/-! ### 15. What plain operations come to, in whatever world (made by genr.py out of the step lemmas) -/
section
variable {P : Program} {n : Nat} {f : Fr} {w : World}
variable {d : Tmp} {ty t t' : TypeId} {pos : String} {af : Array Edge} {x y z : Operand} {gd : Option (Nat × Bool)}
theorem r_move {v : Value} (hx : ev n f x = v) : (execOp (ev n f) ⟨some d, .move x, ty, pos, af, gd⟩).run P w = .ok (.value (v)) w := by subst hx; rfl
theorem r_assign {v : Value} (hx : ev n f x = v) : (execOp (ev n f) ⟨some d, .assign x, ty, pos, af, gd⟩).run P w = .ok (.value (v)) w := by subst hx; rfl
theorem r_pickT {v : Value} (hc : ev n f x = .bool true) (hx : ev n f y = v) : (execOp (ev n f) ⟨some d, .pick x y z, ty, pos, af, gd⟩).run P w = .ok (.value (v)) w := by subst hx; simp [execOp, hc, asBool]
theorem r_pickF {v : Value} (hc : ev n f x = .bool false) (hx : ev n f z = v) : (execOp (ev n f) ⟨some d, .pick x y z, ty, pos, af, gd⟩).run P w = .ok (.value (v)) w := by subst hx; simp [execOp, hc, asBool]
theorem r_extract {vs : Array Value} {i : Nat} {v : Value} (hx : ev n f x = .tuple vs) (hv : vs[i]? = some v) : (execOp (ev n f) ⟨some d, .extract x i, ty, pos, af, gd⟩).run P w = .ok (.value (v)) w := by simp [execOp, hx, Instr.extract, hv]
theorem r_nilCheck {a : Addr} (hx : ev n f x = .pointer (some a)) : (execOp (ev n f) ⟨some d, .nilCheck x, ty, pos, af, gd⟩).run P w = .ok (.value (.pointer (some a))) w := by simp [execOp, hx]
theorem r_not {b : Bool} (hx : ev n f x = .bool b) : (execOp (ev n f) ⟨some d, .unOp .not t x, ty, pos, af, gd⟩).run P w = .ok (.value (.bool (!b))) w := by simp [execOp, hx, Op.unary]
theorem r_neg {k : IntKind} {a : Int} (hx : ev n f x = .int k a) : (execOp (ev n f) ⟨some d, .unOp .neg t x, ty, pos, af, gd⟩).run P w = .ok (.value (.int k (k.wrap (0 - a)))) w := by simp [execOp, hx, Op.unary, Op.intArith]
theorem r_quow {kd : IntKind} {a b : Int} (hx : ev n f x = .int kd a) (hy : ev n f y = .int kd b) (hb : b ≠ 0) : (execOp (ev n f) ⟨some d, .binOp .quo t x y t', ty, pos, af, gd⟩).run P w = .ok (.value (.int kd (kd.wrap (a.tdiv b)))) w := by simp [execOp, hx, hy, eqGuard, binOp, Op.intDiv, hb]
theorem r_remw {kd : IntKind} {a b : Int} (hx : ev n f x = .int kd a) (hy : ev n f y = .int kd b) (hb : b ≠ 0) : (execOp (ev n f) ⟨some d, .binOp .rem t x y t', ty, pos, af, gd⟩).run P w = .ok (.value (.int kd (a.tmod b))) w := by simp [execOp, hx, hy, eqGuard, binOp, Op.intDiv, hb]
theorem r_bitw {kd : IntKind} {a b : Int} {op : BinOp} {r : Value} (hx : ev n f x = .int kd a) (hy : ev n f y = .int kd b) (hop : op = .and ∨ op = .or ∨ op = .xor ∨ op = .andNot)
    (hr : (Op.intBits op kd a b).run P w = .ok r w) : (execOp (ev n f) ⟨some d, .binOp op t x y t', ty, pos, af, gd⟩).run P w = .ok (.value (r)) w := by rcases hop with rfl | rfl | rfl | rfl <;> simp [execOp, hx, hy, eqGuard, binOp, hr]
theorem r_shl {kd : IntKind} {a b : Int} {ky : IntKind} (hx : ev n f x = .int kd a) (hy : ev n f y = .int ky b) (hb : 0 ≤ b) : (execOp (ev n f) ⟨some d, .binOp .shl t x y t', ty, pos, af, gd⟩).run P w = .ok (.value (.int kd (kd.wrap (a * 2 ^ (min b.toNat kd.bits))))) w := by
  have : ¬ b < 0 := by omega
  simp [execOp, hx, hy, eqGuard, binOp, Op.shift, this]
theorem r_shr {kd : IntKind} {a b : Int} {ky : IntKind} (hx : ev n f x = .int kd a) (hy : ev n f y = .int ky b) (hb : 0 ≤ b) : (execOp (ev n f) ⟨some d, .binOp .shr t x y t', ty, pos, af, gd⟩).run P w = .ok (.value (.int kd (a.fdiv (2 ^ (min b.toNat kd.bits))))) w := by
  have : ¬ b < 0 := by omega
  simp [execOp, hx, hy, eqGuard, binOp, Op.shift, this]
theorem r_conv {ks : IntKind} {kd : IntKind} {a : Int} {src dst : TypeId} {u : TypeDesc} (hs : P.underlying src = some u) (hd : P.underlying dst = some (.int kd)) (hx : ev n f x = .int ks a) : (execOp (ev n f) ⟨some d, .convert src dst x, ty, pos, af, gd⟩).run P w = .ok (.value (.int kd (kd.wrap a))) w := by simp [execOp, hx, convert, run_underlying hs, run_underlying hd, Conv.intToInt]
theorem r_len {a : Option Addr} {m c : Nat} {e : TypeId} (ht : P.underlying t = some (.slice e)) (hx : ev n f x = .slice a m c) : (execOp (ev n f) ⟨some d, .call { callee := .builtin .len, args := #[x], argTypes := #[t] }, ty, pos, af, gd⟩).run P w = .ok (.value (.int .i64 (m : Int))) w := by simp [execOp, resolve, invoke, builtin, hx, Builtin.len_, run_underlying ht, goInt]
theorem r_cap {a : Option Addr} {m c : Nat} {e : TypeId} (ht : P.underlying t = some (.slice e)) (hx : ev n f x = .slice a m c) : (execOp (ev n f) ⟨some d, .call { callee := .builtin .cap, args := #[x], argTypes := #[t] }, ty, pos, af, gd⟩).run P w = .ok (.value (.int .i64 (c : Int))) w := by simp [execOp, resolve, invoke, builtin, hx, Builtin.cap_, run_underlying ht, goInt]
theorem r_slen {s : ByteArray} (ht : P.underlying t = some .string) (hx : ev n f x = .string s) : (execOp (ev n f) ⟨some d, .call { callee := .builtin .len, args := #[x], argTypes := #[t] }, ty, pos, af, gd⟩).run P w = .ok (.value (.int .i64 (s.size : Int))) w := by simp [execOp, resolve, invoke, builtin, hx, Builtin.len_, run_underlying ht, goInt]
theorem r_min2 {kd : IntKind} {a b : Int} {ts : Array TypeId} (hx : ev n f x = .int kd a) (hy : ev n f y = .int kd b) : (execOp (ev n f) ⟨some d, .call { callee := .builtin .min, args := #[x, y], argTypes := ts }, ty, pos, af, gd⟩).run P w = .ok (.value (.int kd (min a b))) w := by rw [show min a b = (if b < a then b else a) by split <;> omega]; simp [execOp, resolve, invoke, builtin, hx, hy, Builtin.min_, Builtin.min2]
theorem r_max2 {kd : IntKind} {a b : Int} {ts : Array TypeId} (hx : ev n f x = .int kd a) (hy : ev n f y = .int kd b) : (execOp (ev n f) ⟨some d, .call { callee := .builtin .max, args := #[x, y], argTypes := ts }, ty, pos, af, gd⟩).run P w = .ok (.value (.int kd (max a b))) w := by rw [show max a b = (if b > a then b else a) by split <;> omega]; simp [execOp, resolve, invoke, builtin, hx, hy, Builtin.max_, Builtin.max2]
theorem r_ptr_eql {p : Option Addr} {e : TypeId} (ht : P.underlying t = some (.pointer e)) (hx : ev n f x = .pointer p) (hy : ev n f y = .pointer none) : (execOp (ev n f) ⟨some d, .binOp .eql t x y t', ty, pos, af, gd⟩).run P w = .ok (.value (.bool p.isNone)) w := by
  have h := eq_of_in (w := w) (fun D => eqIn_ptr (w := w) D ht p)
  simp [execOp, hx, hy, eqGuard, binOp, h]
theorem r_ptr_neq {p : Option Addr} {e : TypeId} (ht : P.underlying t = some (.pointer e)) (hx : ev n f x = .pointer p) (hy : ev n f y = .pointer none) : (execOp (ev n f) ⟨some d, .binOp .neq t x y t', ty, pos, af, gd⟩).run P w = .ok (.value (.bool (!p.isNone))) w := by
  have h := eq_of_in (w := w) (fun D => eqIn_ptr (w := w) D ht p)
  simp [execOp, hx, hy, eqGuard, binOp, h]
theorem r_sl_eql {a : Option Addr} {m c : Nat} {e : TypeId} (ht : P.underlying t = some (.slice e)) (hx : ev n f x = .slice a m c) (hy : ev n f y = .slice none 0 0) : (execOp (ev n f) ⟨some d, .binOp .eql t x y t', ty, pos, af, gd⟩).run P w = .ok (.value (.bool a.isNone)) w := by
  have h := eq_of_in (w := w) (fun D => eqIn_sl (w := w) D ht a m c)
  simp [execOp, hx, hy, eqGuard, binOp, h]
theorem r_boolEq {b c : Bool} (ht : P.underlying t = some .bool) (hx : ev n f x = .bool b) (hy : ev n f y = .bool c) : (execOp (ev n f) ⟨some d, .binOp .eql t x y t', ty, pos, af, gd⟩).run P w = .ok (.value (.bool (b == c))) w := by
  have h := eq_of_in (w := w) (fun D => eqIn_bool (w := w) D ht b c)
  simp [execOp, hx, hy, eqGuard, binOp, h]
theorem r_boolNe {b c : Bool} (ht : P.underlying t = some .bool) (hx : ev n f x = .bool b) (hy : ev n f y = .bool c) : (execOp (ev n f) ⟨some d, .binOp .neq t x y t', ty, pos, af, gd⟩).run P w = .ok (.value (.bool (!(b == c)))) w := by
  have h := eq_of_in (w := w) (fun D => eqIn_bool (w := w) D ht b c)
  simp [execOp, hx, hy, eqGuard, binOp, h]
theorem r_fieldAddr {a : Addr} {fs : Array Field} {i : Nat} {fd : Field} {zv : Value} {size bytes : Nat} (hs : P.underlying t = some (.struct fs)) (hf : fs[i]? = some fd) (hI : TI P fd.type zv size bytes) (hne : size ≠ 0)
    (hx : ev n f x = .pointer (some a)) : (execOp (ev n f) ⟨some d, .fieldAddr t x i, ty, pos, af, gd⟩).run P w = .ok (.value (.pointer (some (a.add fd.offset)))) w := by
  have h := hI.sizeOf (w := w)
  simp [execOp, hx, Instr.fieldAt, run_underlying hs, hf, Instr.sureAddr, fieldPlace, h, hne]
theorem r_load1 {u : TypeDesc} {a : Addr} {v : Value} (ht : P.underlying t = some u) (hu : aggB u = false) (hx : ev n f x = .pointer (some a)) (hc : w.cell? a = some v) : (execOp (ev n f) ⟨some d, .load t x, ty, pos, af, gd⟩).run P w = .ok (.value (v)) w := by
  have h := run_load1 (w := w) ht hu hc
  simp [execOp, hx, Instr.loadAt, Instr.sureAddr, h]
theorem r_loadN {u : TypeDesc} {a : Addr} {cs : List Value} {zv : Value} {size bytes : Nat} (ht : P.underlying t = some u) (hu : aggB u = true) (hI : TI P t zv size bytes) (hx : ev n f x = .pointer (some a))
    (hl : cs.length = size) (hc : ∀ i v, cs[i]? = some v → w.cell? (a.add i) = some v) : (execOp (ev n f) ⟨some d, .load t x, ty, pos, af, gd⟩).run P w = .ok (.value (.agg cs.toArray)) w := by
  have h1 := hI.sizeOf (w := w)
  have h2 := run_loadCells_list (P := P) (w := w) a cs hc
  rw [hl] at h2
  simp [execOp, hx, Instr.loadAt, Instr.sureAddr, loadVar, run_isAgg ht, hu, h1, h2]
theorem r_idxArr {a : Addr} {m : Nat} {kd : IntKind} {i : Int} {e : TypeId} {zv : Value} {size bytes : Nat} (ht : P.underlying t = some (.array m e)) (hI : TI P e zv size bytes) (hx : ev n f x = .pointer (some a)) (hy : ev n f y = .int kd i) (h0 : 0 ≤ i) (h1 : i < m) : (execOp (ev n f) ⟨some d, .indexAddr t x y, ty, pos, af, gd⟩).run P w = .ok (.value (.pointer (some (a.add (i.toNat * size))))) w := by
  have h2 := hI.sizeOf (w := w)
  simp [execOp, hx, hy, Instr.indexAt, asIntOf, run_underlying ht, Instr.sureAddr, h0, h1, h2]
theorem r_cutStr {s : ByteArray} {lo hi : Option Operand} {l h q : Nat} (ht : P.underlying t = some .string) (hx : ev n f x = .string s)
    (hb : (Instr.sliceBounds false s.size s.size (lo.map (ev n f)) (hi.map (ev n f)) none).run P w = .ok (l, h, q) w) : (execOp (ev n f) ⟨some d, .slice t x lo hi none, ty, pos, af, gd⟩).run P w = .ok (.value (.string (s.extract l h))) w := by
  simp [execOp, hx, Instr.sliceAt, Instr.slice, run_underlying ht, hb]
theorem r_lssT {kd : IntKind} {a b : Int} (hx : ev n f x = .int kd a) (hy : ev n f y = .int kd b) (h : a < b) : (execOp (ev n f) ⟨some d, .binOp .lss t x y t', ty, pos, af, gd⟩).run P w = .ok (.value (.bool true)) w := by
  simp [execOp, hx, hy, eqGuard, binOp, Op.intCmp, h]
theorem r_lssF {kd : IntKind} {a b : Int} (hx : ev n f x = .int kd a) (hy : ev n f y = .int kd b) (h : b ≤ a) : (execOp (ev n f) ⟨some d, .binOp .lss t x y t', ty, pos, af, gd⟩).run P w = .ok (.value (.bool false)) w := by
  simp [execOp, hx, hy, eqGuard, binOp, Op.intCmp, h]
theorem r_gtrT {kd : IntKind} {a b : Int} (hx : ev n f x = .int kd a) (hy : ev n f y = .int kd b) (h : b < a) : (execOp (ev n f) ⟨some d, .binOp .gtr t x y t', ty, pos, af, gd⟩).run P w = .ok (.value (.bool true)) w := by
  simp [execOp, hx, hy, eqGuard, binOp, Op.intCmp, h]
theorem r_gtrF {kd : IntKind} {a b : Int} (hx : ev n f x = .int kd a) (hy : ev n f y = .int kd b) (h : a ≤ b) : (execOp (ev n f) ⟨some d, .binOp .gtr t x y t', ty, pos, af, gd⟩).run P w = .ok (.value (.bool false)) w := by
  simp [execOp, hx, hy, eqGuard, binOp, Op.intCmp, h]
theorem r_leqT {kd : IntKind} {a b : Int} (hx : ev n f x = .int kd a) (hy : ev n f y = .int kd b) (h : a ≤ b) : (execOp (ev n f) ⟨some d, .binOp .leq t x y t', ty, pos, af, gd⟩).run P w = .ok (.value (.bool true)) w := by
  simp [execOp, hx, hy, eqGuard, binOp, Op.intCmp, h]
theorem r_leqF {kd : IntKind} {a b : Int} (hx : ev n f x = .int kd a) (hy : ev n f y = .int kd b) (h : b < a) : (execOp (ev n f) ⟨some d, .binOp .leq t x y t', ty, pos, af, gd⟩).run P w = .ok (.value (.bool false)) w := by
  simp [execOp, hx, hy, eqGuard, binOp, Op.intCmp, h]
theorem r_geqT {kd : IntKind} {a b : Int} (hx : ev n f x = .int kd a) (hy : ev n f y = .int kd b) (h : b ≤ a) : (execOp (ev n f) ⟨some d, .binOp .geq t x y t', ty, pos, af, gd⟩).run P w = .ok (.value (.bool true)) w := by
  simp [execOp, hx, hy, eqGuard, binOp, Op.intCmp, h]
theorem r_geqF {kd : IntKind} {a b : Int} (hx : ev n f x = .int kd a) (hy : ev n f y = .int kd b) (h : a < b) : (execOp (ev n f) ⟨some d, .binOp .geq t x y t', ty, pos, af, gd⟩).run P w = .ok (.value (.bool false)) w := by
  simp [execOp, hx, hy, eqGuard, binOp, Op.intCmp, h]
theorem r_eqlT {kd : IntKind} {a b : Int} (hx : ev n f x = .int kd a) (hy : ev n f y = .int kd b) (h : a = b) : (execOp (ev n f) ⟨some d, .binOp .eql t x y t', ty, pos, af, gd⟩).run P w = .ok (.value (.bool true)) w := by
  simp [execOp, hx, hy, eqGuard, binOp, Op.intCmp, h]
theorem r_eqlF {kd : IntKind} {a b : Int} (hx : ev n f x = .int kd a) (hy : ev n f y = .int kd b) (h : a ≠ b) : (execOp (ev n f) ⟨some d, .binOp .eql t x y t', ty, pos, af, gd⟩).run P w = .ok (.value (.bool false)) w := by
  simp [execOp, hx, hy, eqGuard, binOp, Op.intCmp, h]
theorem r_neqT {kd : IntKind} {a b : Int} (hx : ev n f x = .int kd a) (hy : ev n f y = .int kd b) (h : a ≠ b) : (execOp (ev n f) ⟨some d, .binOp .neq t x y t', ty, pos, af, gd⟩).run P w = .ok (.value (.bool true)) w := by
  simp [execOp, hx, hy, eqGuard, binOp, Op.intCmp, h]
theorem r_neqF {kd : IntKind} {a b : Int} (hx : ev n f x = .int kd a) (hy : ev n f y = .int kd b) (h : a = b) : (execOp (ev n f) ⟨some d, .binOp .neq t x y t', ty, pos, af, gd⟩).run P w = .ok (.value (.bool false)) w := by
  simp [execOp, hx, hy, eqGuard, binOp, Op.intCmp, h]
theorem r_addw {kd : IntKind} {a b : Int} (hx : ev n f x = .int kd a) (hy : ev n f y = .int kd b) : (execOp (ev n f) ⟨some d, .binOp .add t x y t', ty, pos, af, gd⟩).run P w = .ok (.value (.int kd (kd.wrap (a + b)))) w := by
  simp [execOp, hx, hy, eqGuard, binOp, Op.intArith]
theorem r_add {a b : Int} (hx : ev n f x = .int .i64 a) (hy : ev n f y = .int .i64 b) (h0 : -9223372036854775808 ≤ a + b) (h1 : a + b ≤ 9223372036854775807) : (execOp (ev n f) ⟨some d, .binOp .add t x y t', ty, pos, af, gd⟩).run P w = .ok (.value (.int .i64 (a + b))) w := by
  rw [r_addw hx hy, wrap_id (k := .i64) h0 h1]
theorem r_subw {kd : IntKind} {a b : Int} (hx : ev n f x = .int kd a) (hy : ev n f y = .int kd b) : (execOp (ev n f) ⟨some d, .binOp .sub t x y t', ty, pos, af, gd⟩).run P w = .ok (.value (.int kd (kd.wrap (a - b)))) w := by
  simp [execOp, hx, hy, eqGuard, binOp, Op.intArith]
theorem r_sub {a b : Int} (hx : ev n f x = .int .i64 a) (hy : ev n f y = .int .i64 b) (h0 : -9223372036854775808 ≤ a - b) (h1 : a - b ≤ 9223372036854775807) : (execOp (ev n f) ⟨some d, .binOp .sub t x y t', ty, pos, af, gd⟩).run P w = .ok (.value (.int .i64 (a - b))) w := by
  rw [r_subw hx hy, wrap_id (k := .i64) h0 h1]
theorem r_mulw {kd : IntKind} {a b : Int} (hx : ev n f x = .int kd a) (hy : ev n f y = .int kd b) : (execOp (ev n f) ⟨some d, .binOp .mul t x y t', ty, pos, af, gd⟩).run P w = .ok (.value (.int kd (kd.wrap (a * b)))) w := by
  simp [execOp, hx, hy, eqGuard, binOp, Op.intArith]
theorem r_mul {a b : Int} (hx : ev n f x = .int .i64 a) (hy : ev n f y = .int .i64 b) (h0 : -9223372036854775808 ≤ a * b) (h1 : a * b ≤ 9223372036854775807) : (execOp (ev n f) ⟨some d, .binOp .mul t x y t', ty, pos, af, gd⟩).run P w = .ok (.value (.int .i64 (a * b))) w := by
  rw [r_mulw hx hy, wrap_id (k := .i64) h0 h1]
theorem r_idx {a : Addr} {m c : Nat} {kd : IntKind} {i : Int} {e : TypeId} {zv : Value} {size bytes : Nat} (ht : P.underlying t = some (.slice e)) (hI : TI P e zv size bytes) (hx : ev n f x = .slice (some a) m c) (hy : ev n f y = .int kd i) (h0 : 0 ≤ i) (h1 : i < m) :
    (execOp (ev n f) ⟨some d, .indexAddr t x y, ty, pos, af, gd⟩).run P w = .ok (.value (.pointer (some (a.add (i.toNat * size))))) w := by
  have h2 := hI.sizeOf (w := w)
  simp [execOp, hx, hy, Instr.indexAt, asIntOf, run_underlying ht, h0, h1, h2]
theorem r_cut {a : Option Addr} {m c : Nat} {e : TypeId} {zv : Value} {size bytes : Nat} {lo hi mx : Option Operand} {l h q : Nat} (ht : P.underlying t = some (.slice e)) (hI : TI P e zv size bytes) (hx : ev n f x = .slice a m c)
    (hb : (Instr.sliceBounds true m c (lo.map (ev n f)) (hi.map (ev n f)) (mx.map (ev n f))).run P w = .ok (l, h, q) w) :
    (execOp (ev n f) ⟨some d, .slice t x lo hi mx, ty, pos, af, gd⟩).run P w = .ok (.value (.slice (if q = l then a else a.map (·.add (l * size))) (h - l) (q - l))) w := by
  have h2 := hI.sizeOf (w := w)
  simp [execOp, hx, Instr.sliceAt, Instr.slice, run_underlying ht, hb, h2]
end
end Go.GV
