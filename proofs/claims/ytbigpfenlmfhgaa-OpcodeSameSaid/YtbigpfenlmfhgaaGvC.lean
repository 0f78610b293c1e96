/- A part of the proof that the row of the law holds of the program as translated: lemmas and contracts of its functions. -/
import Derived.Test.YtbigpfenlmfhgaaGvB
set_option linter.unusedVariables false
set_option linter.unusedSimpArgs false
namespace Go.GV
theorem bytes_ext {a b : ByteArray} (h : a.data = b.data) : a = b := by cases a; cases b; simp at h; rw [h]
section
variable {P : Program} {ops : Array Oper} {Q : Exit → Act → World → Prop} {rest : List Oper} {n : Nat} {f : Fr} {w : World}
variable {d : Tmp} {ty t t' : TypeId} {pos : String} {af : Array Edge} {x y z : Operand}

theorem s_val {o : Oper} (hg : o.guard = none) {v : Value} {w' : World} (h : (execOp (ev n f) o).run P w = .ok (.value v) w')
    (k : wpList P ops Q rest (act n (pt f o.dst v)) w') : wpList P ops Q (o :: rest) (act n f) w := by
  refine wpList_plain hg fun K hK => ?_
  unfold Oper.wp
  rw [act_eval, h]
  exact hK _ _ (by rw [act_put]; exact k)
theorem s_unit {o : Oper} (hg : o.guard = none) {w' : World} (h : (execOp (ev n f) o).run P w = .ok .skip w')
    (k : wpList P ops Q rest (act n (pt f o.dst undef)) w') : wpList P ops Q (o :: rest) (act n f) w := by
  refine wpList_plain hg fun K hK => ?_
  unfold Oper.wp
  rw [act_eval, h]
  exact hK _ _ (by rw [act_put]; exact k)
theorem s_nil (h : Q .normal (act n f) w) : wpList P ops Q [] (act n f) w := h
theorem s_end {c : Code} {Q' : Exit → Act → World → Prop} (h : c.wp P Q' (act n f) w) : wpList P ops (Exit.then (c.wp P Q') Q') [] (act n f) w := h
/-- The guard of an operation. -/
theorem yielded_act (j : Nat) {dj : Tmp} {b : Bool} (hj : (ops[j]?).bind (·.dst) = some dj) (hv : ev n f (.tmp dj) = .bool b) : yielded ops (act n f).tmps j = some b := by
  unfold yielded
  rw [hj]
  simp only [Option.bind_some]
  have h := getD_tmps' n f dj
  rw [hv] at h
  cases hh : (act n f).tmps[dj]? with
  | none => rw [hh] at h; simp [undef] at h
  | some v => rw [hh] at h; simp at h; subst h; rfl
theorem g_do {l : List Oper} {dst : Option Tmp} {op : Op} {j : Nat} (dj : Tmp) {want : Bool} (hj : (l[j]?).bind (·.dst) = some dj) (hv : ev n f (.tmp dj) = .bool want)
    (k : wpList P l.toArray Q (⟨dst, op, ty, pos, af, none⟩ :: rest) (act n f) w) : wpList P l.toArray Q (⟨dst, op, ty, pos, af, some (j, want)⟩ :: rest) (act n f) w := by
  have hy := yielded_act (ops := l.toArray) j (by simpa using hj) hv
  unfold wpList at k ⊢
  simp only [Region.wanted, if_true, hy, beq_self_eq_true] at k ⊢
  exact k
theorem g_skip {l : List Oper} {dst : Option Tmp} {op : Op} {j : Nat} (dj : Tmp) {b want : Bool} (hj : (l[j]?).bind (·.dst) = some dj) (hv : ev n f (.tmp dj) = .bool b) (hne : (b == want) = false)
    (k : wpList P l.toArray Q rest (act n (pt f dst undef)) w) : wpList P l.toArray Q (⟨dst, op, ty, pos, af, some (j, want)⟩ :: rest) (act n f) w := by
  have hy := yielded_act (ops := l.toArray) j (by simpa using hj) hv
  unfold wpList
  rw [if_neg]
  · rw [act_put]; exact k
  · simp only [Region.wanted, hy]
    intro h
    have : b = want := by simpa using h
    subst this
    simp at hne

/-! ### 7. Plain operations -/
theorem s_move {v : Value} (hx : ev n f x = v) (k : wpList P ops Q rest (act n (upd f d v)) w) : wpList P ops Q (⟨some d, .move x, ty, pos, af, none⟩ :: rest) (act n f) w :=
  s_val rfl (by subst hx; rfl) k
theorem s_assign {v : Value} (hx : ev n f x = v) (k : wpList P ops Q rest (act n (upd f d v)) w) : wpList P ops Q (⟨some d, .assign x, ty, pos, af, none⟩ :: rest) (act n f) w :=
  s_val rfl (by subst hx; rfl) k
theorem s_pickT {v : Value} (hc : ev n f x = .bool true) (hx : ev n f y = v) (k : wpList P ops Q rest (act n (upd f d v)) w) : wpList P ops Q (⟨some d, .pick x y z, ty, pos, af, none⟩ :: rest) (act n f) w :=
  s_val rfl (by subst hx; simp [execOp, hc, asBool]) k
theorem s_pickF {v : Value} (hc : ev n f x = .bool false) (hx : ev n f z = v) (k : wpList P ops Q rest (act n (upd f d v)) w) : wpList P ops Q (⟨some d, .pick x y z, ty, pos, af, none⟩ :: rest) (act n f) w :=
  s_val rfl (by subst hx; simp [execOp, hc, asBool]) k
theorem s_extract {vs : Array Value} {i : Nat} {v : Value} (hx : ev n f x = .tuple vs) (hv : vs[i]? = some v) (k : wpList P ops Q rest (act n (upd f d v)) w) : wpList P ops Q (⟨some d, .extract x i, ty, pos, af, none⟩ :: rest) (act n f) w :=
  s_val rfl (by simp [execOp, hx, Instr.extract, hv]) k
theorem s_nilCheck {a : Addr} (hx : ev n f x = .pointer (some a)) (k : wpList P ops Q rest (act n (upd f d (.pointer (some a)))) w) : wpList P ops Q (⟨some d, .nilCheck x, ty, pos, af, none⟩ :: rest) (act n f) w :=
  s_val rfl (by simp [execOp, hx]) k
theorem s_not {b : Bool} (hx : ev n f x = .bool b) (k : wpList P ops Q rest (act n (upd f d (.bool (!b)))) w) : wpList P ops Q (⟨some d, .unOp .not t x, ty, pos, af, none⟩ :: rest) (act n f) w :=
  s_val rfl (by simp [execOp, hx, Op.unary]) k
theorem s_neg {k : IntKind} {a : Int} (hx : ev n f x = .int k a) (hk : wpList P ops Q rest (act n (upd f d (.int k (k.wrap (0 - a))))) w) : wpList P ops Q (⟨some d, .unOp .neg t x, ty, pos, af, none⟩ :: rest) (act n f) w :=
  s_val rfl (by simp [execOp, hx, Op.unary, Op.intArith]) hk
theorem wrap_id {k : IntKind} {a : Int} (h0 : k.min ≤ a) (h1 : a ≤ k.max) : k.wrap a = a := by
  cases k <;> simp [IntKind.wrap, IntKind.min, IntKind.max, IntKind.signed, IntKind.bits] at * <;> (try simp [Int.bmod]) <;> (try split) <;> omega
section arith
variable {kd : IntKind} {a b : Int}
theorem run_addI (hx : ev n f x = .int kd a) (hy : ev n f y = .int kd b) : (execOp (ev n f) ⟨some d, .binOp .add t x y t', ty, pos, af, none⟩).run P w = .ok (.value (.int kd (kd.wrap (a + b)))) w := by
  simp [execOp, hx, hy, eqGuard, binOp, Op.intArith]
theorem run_subI (hx : ev n f x = .int kd a) (hy : ev n f y = .int kd b) : (execOp (ev n f) ⟨some d, .binOp .sub t x y t', ty, pos, af, none⟩).run P w = .ok (.value (.int kd (kd.wrap (a - b)))) w := by
  simp [execOp, hx, hy, eqGuard, binOp, Op.intArith]
theorem run_mulI (hx : ev n f x = .int kd a) (hy : ev n f y = .int kd b) : (execOp (ev n f) ⟨some d, .binOp .mul t x y t', ty, pos, af, none⟩).run P w = .ok (.value (.int kd (kd.wrap (a * b)))) w := by
  simp [execOp, hx, hy, eqGuard, binOp, Op.intArith]
theorem s_addw (hx : ev n f x = .int kd a) (hy : ev n f y = .int kd b) (k : wpList P ops Q rest (act n (upd f d (.int kd (kd.wrap (a + b))))) w) : wpList P ops Q (⟨some d, .binOp .add t x y t', ty, pos, af, none⟩ :: rest) (act n f) w :=
  s_val rfl (run_addI hx hy) k
theorem s_subw (hx : ev n f x = .int kd a) (hy : ev n f y = .int kd b) (k : wpList P ops Q rest (act n (upd f d (.int kd (kd.wrap (a - b))))) w) : wpList P ops Q (⟨some d, .binOp .sub t x y t', ty, pos, af, none⟩ :: rest) (act n f) w :=
  s_val rfl (run_subI hx hy) k
theorem s_mulw (hx : ev n f x = .int kd a) (hy : ev n f y = .int kd b) (k : wpList P ops Q rest (act n (upd f d (.int kd (kd.wrap (a * b))))) w) : wpList P ops Q (⟨some d, .binOp .mul t x y t', ty, pos, af, none⟩ :: rest) (act n f) w :=
  s_val rfl (run_mulI hx hy) k
/-- int: no wrap where it is seen that none is needed -/
theorem s_add (hx : ev n f x = .int .i64 a) (hy : ev n f y = .int .i64 b) (h0 : -9223372036854775808 ≤ a + b) (h1 : a + b ≤ 9223372036854775807) (k : wpList P ops Q rest (act n (upd f d (.int .i64 (a + b)))) w) : wpList P ops Q (⟨some d, .binOp .add t x y t', ty, pos, af, none⟩ :: rest) (act n f) w :=
  s_addw hx hy (by rw [wrap_id (k := .i64) h0 h1]; exact k)
theorem s_sub (hx : ev n f x = .int .i64 a) (hy : ev n f y = .int .i64 b) (h0 : -9223372036854775808 ≤ a - b) (h1 : a - b ≤ 9223372036854775807) (k : wpList P ops Q rest (act n (upd f d (.int .i64 (a - b)))) w) : wpList P ops Q (⟨some d, .binOp .sub t x y t', ty, pos, af, none⟩ :: rest) (act n f) w :=
  s_subw hx hy (by rw [wrap_id (k := .i64) h0 h1]; exact k)
theorem s_mul (hx : ev n f x = .int .i64 a) (hy : ev n f y = .int .i64 b) (h0 : -9223372036854775808 ≤ a * b) (h1 : a * b ≤ 9223372036854775807) (k : wpList P ops Q rest (act n (upd f d (.int .i64 (a * b)))) w) : wpList P ops Q (⟨some d, .binOp .mul t x y t', ty, pos, af, none⟩ :: rest) (act n f) w :=
  s_mulw hx hy (by rw [wrap_id (k := .i64) h0 h1]; exact k)
theorem s_negi (hx : ev n f x = .int .i64 a) (h0 : -9223372036854775808 < a) (h1 : a ≤ 9223372036854775807) (hk : wpList P ops Q rest (act n (upd f d (.int .i64 (-a)))) w) : wpList P ops Q (⟨some d, .unOp .neg t x, ty, pos, af, none⟩ :: rest) (act n f) w :=
  s_neg hx (by rw [wrap_id (k := .i64) (by show -9223372036854775808 ≤ 0 - a; omega) (by show 0 - a ≤ 9223372036854775807; omega), Int.zero_sub]; exact hk)
theorem s_quow (hx : ev n f x = .int kd a) (hy : ev n f y = .int kd b) (hb : b ≠ 0) (k : wpList P ops Q rest (act n (upd f d (.int kd (kd.wrap (a.tdiv b))))) w) : wpList P ops Q (⟨some d, .binOp .quo t x y t', ty, pos, af, none⟩ :: rest) (act n f) w :=
  s_val rfl (by simp [execOp, hx, hy, eqGuard, binOp, Op.intDiv, hb]) k
theorem s_remw (hx : ev n f x = .int kd a) (hy : ev n f y = .int kd b) (hb : b ≠ 0) (k : wpList P ops Q rest (act n (upd f d (.int kd (a.tmod b)))) w) : wpList P ops Q (⟨some d, .binOp .rem t x y t', ty, pos, af, none⟩ :: rest) (act n f) w :=
  s_val rfl (by simp [execOp, hx, hy, eqGuard, binOp, Op.intDiv, hb]) k
theorem s_bitw {op : BinOp} {r : Value} (hx : ev n f x = .int kd a) (hy : ev n f y = .int kd b) (hop : op = .and ∨ op = .or ∨ op = .xor ∨ op = .andNot)
    (hr : (Op.intBits op kd a b).run P w = .ok r w) (k : wpList P ops Q rest (act n (upd f d r)) w) : wpList P ops Q (⟨some d, .binOp op t x y t', ty, pos, af, none⟩ :: rest) (act n f) w :=
  s_val rfl (by rcases hop with rfl | rfl | rfl | rfl <;> simp [execOp, hx, hy, eqGuard, binOp, hr]) k
/-- Shifts, by any count that isn't below 0 -/
theorem s_shl {ky : IntKind} (hx : ev n f x = .int kd a) (hy : ev n f y = .int ky b) (hb : 0 ≤ b) (k : wpList P ops Q rest (act n (upd f d (.int kd (kd.wrap (a * 2 ^ (min b.toNat kd.bits)))))) w) : wpList P ops Q (⟨some d, .binOp .shl t x y t', ty, pos, af, none⟩ :: rest) (act n f) w :=
  s_val rfl (by have : ¬ b < 0 := by omega
                simp [execOp, hx, hy, eqGuard, binOp, Op.shift, this]) k
theorem s_shr {ky : IntKind} (hx : ev n f x = .int kd a) (hy : ev n f y = .int ky b) (hb : 0 ≤ b) (k : wpList P ops Q rest (act n (upd f d (.int kd (a.fdiv (2 ^ (min b.toNat kd.bits)))))) w) : wpList P ops Q (⟨some d, .binOp .shr t x y t', ty, pos, af, none⟩ :: rest) (act n f) w :=
  s_val rfl (by have : ¬ b < 0 := by omega
                simp [execOp, hx, hy, eqGuard, binOp, Op.shift, this]) k
/-! Tests: they part at once -/
theorem c_lss (hx : ev n f x = .int kd a) (hy : ev n f y = .int kd b) (hT : a < b → wpList P ops Q rest (act n (upd f d (.bool true))) w) (hF : b ≤ a → wpList P ops Q rest (act n (upd f d (.bool false))) w) :
    wpList P ops Q (⟨some d, .binOp .lss t x y t', ty, pos, af, none⟩ :: rest) (act n f) w := by
  by_cases h : a < b
  · exact s_val (v := .bool true) rfl (by simp [execOp, hx, hy, eqGuard, binOp, Op.intCmp, h]) (hT h)
  · exact s_val (v := .bool false) rfl (by simp [execOp, hx, hy, eqGuard, binOp, Op.intCmp, h]) (hF (by omega))
theorem c_gtr (hx : ev n f x = .int kd a) (hy : ev n f y = .int kd b) (hT : b < a → wpList P ops Q rest (act n (upd f d (.bool true))) w) (hF : a ≤ b → wpList P ops Q rest (act n (upd f d (.bool false))) w) :
    wpList P ops Q (⟨some d, .binOp .gtr t x y t', ty, pos, af, none⟩ :: rest) (act n f) w := by
  by_cases h : b < a
  · exact s_val (v := .bool true) rfl (by simp [execOp, hx, hy, eqGuard, binOp, Op.intCmp, h]) (hT h)
  · exact s_val (v := .bool false) rfl (by simp [execOp, hx, hy, eqGuard, binOp, Op.intCmp, h]) (hF (by omega))
theorem c_leq (hx : ev n f x = .int kd a) (hy : ev n f y = .int kd b) (hT : a ≤ b → wpList P ops Q rest (act n (upd f d (.bool true))) w) (hF : b < a → wpList P ops Q rest (act n (upd f d (.bool false))) w) :
    wpList P ops Q (⟨some d, .binOp .leq t x y t', ty, pos, af, none⟩ :: rest) (act n f) w := by
  by_cases h : a ≤ b
  · exact s_val (v := .bool true) rfl (by simp [execOp, hx, hy, eqGuard, binOp, Op.intCmp, h]) (hT h)
  · exact s_val (v := .bool false) rfl (by simp [execOp, hx, hy, eqGuard, binOp, Op.intCmp, h]) (hF (by omega))
theorem c_geq (hx : ev n f x = .int kd a) (hy : ev n f y = .int kd b) (hT : b ≤ a → wpList P ops Q rest (act n (upd f d (.bool true))) w) (hF : a < b → wpList P ops Q rest (act n (upd f d (.bool false))) w) :
    wpList P ops Q (⟨some d, .binOp .geq t x y t', ty, pos, af, none⟩ :: rest) (act n f) w := by
  by_cases h : b ≤ a
  · exact s_val (v := .bool true) rfl (by simp [execOp, hx, hy, eqGuard, binOp, Op.intCmp, h]) (hT h)
  · exact s_val (v := .bool false) rfl (by simp [execOp, hx, hy, eqGuard, binOp, Op.intCmp, h]) (hF (by omega))
theorem c_eql (hx : ev n f x = .int kd a) (hy : ev n f y = .int kd b) (hT : a = b → wpList P ops Q rest (act n (upd f d (.bool true))) w) (hF : a ≠ b → wpList P ops Q rest (act n (upd f d (.bool false))) w) :
    wpList P ops Q (⟨some d, .binOp .eql t x y t', ty, pos, af, none⟩ :: rest) (act n f) w := by
  by_cases h : a = b
  · exact s_val (v := .bool true) rfl (by simp [execOp, hx, hy, eqGuard, binOp, Op.intCmp, h]) (hT h)
  · exact s_val (v := .bool false) rfl (by simp [execOp, hx, hy, eqGuard, binOp, Op.intCmp, h]) (hF h)
theorem c_neq (hx : ev n f x = .int kd a) (hy : ev n f y = .int kd b) (hT : a ≠ b → wpList P ops Q rest (act n (upd f d (.bool true))) w) (hF : a = b → wpList P ops Q rest (act n (upd f d (.bool false))) w) :
    wpList P ops Q (⟨some d, .binOp .neq t x y t', ty, pos, af, none⟩ :: rest) (act n f) w := by
  by_cases h : a = b
  · exact s_val (v := .bool false) rfl (by simp [execOp, hx, hy, eqGuard, binOp, Op.intCmp, h]) (hF h)
  · exact s_val (v := .bool true) rfl (by simp [execOp, hx, hy, eqGuard, binOp, Op.intCmp, h]) (hT h)
end arith
/-- A Bool that stands in a slot is parted. -/
theorem c_bool {b : Bool} (hT : b = true → wpList P ops Q rest (act n (upd f d (.bool true))) w) (hF : b = false → wpList P ops Q rest (act n (upd f d (.bool false))) w) :
    wpList P ops Q rest (act n (upd f d (.bool b))) w := by
  cases b
  · exact hF rfl
  · exact hT rfl
theorem s_conv {ks : IntKind} {kd : IntKind} {a : Int} {src dst : TypeId} {u : TypeDesc} (hs : P.underlying src = some u) (hd : P.underlying dst = some (.int kd)) (hx : ev n f x = .int ks a)
    (k : wpList P ops Q rest (act n (upd f d (.int kd (kd.wrap a)))) w) : wpList P ops Q (⟨some d, .convert src dst x, ty, pos, af, none⟩ :: rest) (act n f) w :=
  s_val rfl (by simp [execOp, hx, convert, run_underlying hs, run_underlying hd, Conv.intToInt]) k
theorem s_len {a : Option Addr} {m c : Nat} {e : TypeId} (ht : P.underlying t = some (.slice e)) (hx : ev n f x = .slice a m c) (k : wpList P ops Q rest (act n (upd f d (.int .i64 (m : Int)))) w) :
    wpList P ops Q (⟨some d, .call { callee := .builtin .len, args := #[x], argTypes := #[t] }, ty, pos, af, none⟩ :: rest) (act n f) w :=
  s_val rfl (by simp [execOp, resolve, invoke, builtin, hx, Builtin.len_, run_underlying ht, goInt]) k
theorem s_cap {a : Option Addr} {m c : Nat} {e : TypeId} (ht : P.underlying t = some (.slice e)) (hx : ev n f x = .slice a m c) (k : wpList P ops Q rest (act n (upd f d (.int .i64 (c : Int)))) w) :
    wpList P ops Q (⟨some d, .call { callee := .builtin .cap, args := #[x], argTypes := #[t] }, ty, pos, af, none⟩ :: rest) (act n f) w :=
  s_val rfl (by simp [execOp, resolve, invoke, builtin, hx, Builtin.cap_, run_underlying ht, goInt]) k
theorem s_slen {s : ByteArray} (ht : P.underlying t = some .string) (hx : ev n f x = .string s) (k : wpList P ops Q rest (act n (upd f d (.int .i64 (s.size : Int)))) w) :
    wpList P ops Q (⟨some d, .call { callee := .builtin .len, args := #[x], argTypes := #[t] }, ty, pos, af, none⟩ :: rest) (act n f) w :=
  s_val rfl (by simp [execOp, resolve, invoke, builtin, hx, Builtin.len_, run_underlying ht, goInt]) k
theorem s_min2 {kd : IntKind} {a b : Int} {ts : Array TypeId} (hx : ev n f x = .int kd a) (hy : ev n f y = .int kd b) (k : wpList P ops Q rest (act n (upd f d (.int kd (min a b)))) w) :
    wpList P ops Q (⟨some d, .call { callee := .builtin .min, args := #[x, y], argTypes := ts }, ty, pos, af, none⟩ :: rest) (act n f) w :=
  s_val rfl (by rw [show min a b = (if b < a then b else a) by split <;> omega]; simp [execOp, resolve, invoke, builtin, hx, hy, Builtin.min_, Builtin.min2]) k
theorem s_max2 {kd : IntKind} {a b : Int} {ts : Array TypeId} (hx : ev n f x = .int kd a) (hy : ev n f y = .int kd b) (k : wpList P ops Q rest (act n (upd f d (.int kd (max a b)))) w) :
    wpList P ops Q (⟨some d, .call { callee := .builtin .max, args := #[x, y], argTypes := ts }, ty, pos, af, none⟩ :: rest) (act n f) w :=
  s_val rfl (by rw [show max a b = (if b > a then b else a) by split <;> omega]; simp [execOp, resolve, invoke, builtin, hx, hy, Builtin.max_, Builtin.max2]) k
/-! Comparisons with nil, of bools -/
theorem eqIn_ptr (D : Nat) {e : TypeId} (ht : P.underlying t = some (.pointer e)) (p : Option Addr) : (Op.equalIn (D + 1) t (.pointer p) (.pointer none)).run P w = .ok p.isNone w := by
  cases p <;> simp [Op.equalIn, run_underlying ht]
theorem eqIn_sl (D : Nat) {e : TypeId} (ht : P.underlying t = some (.slice e)) (a : Option Addr) (m c : Nat) : (Op.equalIn (D + 1) t (.slice a m c) (.slice none 0 0)).run P w = .ok a.isNone w := by
  cases a <;> simp [Op.equalIn, run_underlying ht]
theorem eqIn_bool (D : Nat) (ht : P.underlying t = some .bool) (b c : Bool) : (Op.equalIn (D + 1) t (.bool b) (.bool c)).run P w = .ok (b == c) w := by
  simp [Op.equalIn, run_underlying ht]
theorem eq_of_in {vx vy : Value} {b : Bool} (h : ∀ D, (Op.equalIn (D + 1) t vx vy).run P w = .ok b w) : (Op.equal t vx vy).run P w = .ok b w := h 9999
theorem s_ptr_eql {p : Option Addr} {e : TypeId} (ht : P.underlying t = some (.pointer e)) (hx : ev n f x = .pointer p) (hy : ev n f y = .pointer none) (k : wpList P ops Q rest (act n (upd f d (.bool p.isNone))) w) :
    wpList P ops Q (⟨some d, .binOp .eql t x y t', ty, pos, af, none⟩ :: rest) (act n f) w :=
  s_val rfl (by
    have h := eq_of_in (w := w) (fun D => eqIn_ptr (w := w) D ht p)
    simp [execOp, hx, hy, eqGuard, binOp, h]) k
theorem s_ptr_neq {p : Option Addr} {e : TypeId} (ht : P.underlying t = some (.pointer e)) (hx : ev n f x = .pointer p) (hy : ev n f y = .pointer none) (k : wpList P ops Q rest (act n (upd f d (.bool (!p.isNone)))) w) :
    wpList P ops Q (⟨some d, .binOp .neq t x y t', ty, pos, af, none⟩ :: rest) (act n f) w :=
  s_val rfl (by
    have h := eq_of_in (w := w) (fun D => eqIn_ptr (w := w) D ht p)
    simp [execOp, hx, hy, eqGuard, binOp, h]) k
theorem s_sl_eql {a : Option Addr} {m c : Nat} {e : TypeId} (ht : P.underlying t = some (.slice e)) (hx : ev n f x = .slice a m c) (hy : ev n f y = .slice none 0 0) (k : wpList P ops Q rest (act n (upd f d (.bool a.isNone))) w) :
    wpList P ops Q (⟨some d, .binOp .eql t x y t', ty, pos, af, none⟩ :: rest) (act n f) w :=
  s_val rfl (by
    have h := eq_of_in (w := w) (fun D => eqIn_sl (w := w) D ht a m c)
    simp [execOp, hx, hy, eqGuard, binOp, h]) k
theorem s_boolEq {b c : Bool} (ht : P.underlying t = some .bool) (hx : ev n f x = .bool b) (hy : ev n f y = .bool c) (k : wpList P ops Q rest (act n (upd f d (.bool (b == c)))) w) :
    wpList P ops Q (⟨some d, .binOp .eql t x y t', ty, pos, af, none⟩ :: rest) (act n f) w :=
  s_val rfl (by
    have h := eq_of_in (w := w) (fun D => eqIn_bool (w := w) D ht b c)
    simp [execOp, hx, hy, eqGuard, binOp, h]) k
theorem s_boolNe {b c : Bool} (ht : P.underlying t = some .bool) (hx : ev n f x = .bool b) (hy : ev n f y = .bool c) (k : wpList P ops Q rest (act n (upd f d (.bool (!(b == c))))) w) :
    wpList P ops Q (⟨some d, .binOp .neq t x y t', ty, pos, af, none⟩ :: rest) (act n f) w :=
  s_val rfl (by
    have h := eq_of_in (w := w) (fun D => eqIn_bool (w := w) D ht b c)
    simp [execOp, hx, hy, eqGuard, binOp, h]) k
theorem c_strEq {s s' : ByteArray} (hx : ev n f x = .string s) (hy : ev n f y = .string s') (hT : s = s' → wpList P ops Q rest (act n (upd f d (.bool true))) w) (hF : s ≠ s' → wpList P ops Q rest (act n (upd f d (.bool false))) w) :
    wpList P ops Q (⟨some d, .binOp .eql t x y t', ty, pos, af, none⟩ :: rest) (act n f) w := by
  by_cases h : s = s'
  · exact s_val (v := .bool true) rfl (by simp [execOp, hx, hy, eqGuard, binOp, Op.stringOp, h]) (hT h)
  · exact s_val (v := .bool false) rfl (by simp [execOp, hx, hy, eqGuard, binOp, Op.stringOp, ByteArray.toList_eq]; exact fun e => h (bytes_ext e)) (hF h)
theorem c_strNe {s s' : ByteArray} (hx : ev n f x = .string s) (hy : ev n f y = .string s') (hT : s ≠ s' → wpList P ops Q rest (act n (upd f d (.bool true))) w) (hF : s = s' → wpList P ops Q rest (act n (upd f d (.bool false))) w) :
    wpList P ops Q (⟨some d, .binOp .neq t x y t', ty, pos, af, none⟩ :: rest) (act n f) w := by
  by_cases h : s = s'
  · exact s_val (v := .bool false) rfl (by simp [execOp, hx, hy, eqGuard, binOp, Op.stringOp, h]) (hF h)
  · exact s_val (v := .bool true) rfl (by simp [execOp, hx, hy, eqGuard, binOp, Op.stringOp, ByteArray.toList_eq]; exact fun e => h (bytes_ext e)) (hT h)
end
end Go.GV
