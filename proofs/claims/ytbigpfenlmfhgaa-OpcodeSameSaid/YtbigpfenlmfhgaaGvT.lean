/- A part of the proof that the row of the law holds of the program as translated: lemmas and contracts of its functions. -/
import Derived.Test.YtbigpfenlmfhgaaGvS
set_option linter.unusedVariables false
set_option linter.unusedSimpArgs false
namespace Go.GV
/-! ### 18. Natural numbers of the unsigned kinds -/
theorem IntKind.wrapN {kd : IntKind} (hs : kd.signed = false) (a : Nat) : kd.wrap (a : Int) = ((a % 2 ^ kd.bits : Nat) : Int) := by
  simp [IntKind.wrap, hs]
theorem ofIntN (k a : Nat) : (BitVec.ofInt k (a : Int)).toNat = a % 2 ^ k := by
  rw [BitVec.ofInt_natCast]; simp
section
variable {P : Program} {n : Nat} {f : Fr} {w : World}
variable {d : Tmp} {ty t t' : TypeId} {pos : String} {af : Array Edge} {x y z : Operand} {gd : Option (Nat × Bool)}
variable {ops : Array Oper} {Q : Exit → Act → World → Prop} {rest : List Oper}
theorem r_andN {kd : IntKind} {a b M : Nat} (hM : 2 ^ kd.bits = M) (hs : kd.signed = false) (hx : ev n f x = .int kd (a : Int)) (hy : ev n f y = .int kd (b : Int)) (ha : a < M) (hb : b < M) : (execOp (ev n f) ⟨some d, .binOp .and t x y t', ty, pos, af, gd⟩).run P w = .ok (.value (.int kd ((a &&& b : Nat) : Int))) w := by
  subst hM
  have h1 : (BitVec.ofInt kd.bits (a : Int) &&& BitVec.ofInt kd.bits (b : Int)).toNat = a &&& b := by
    simp only [BitVec.toNat_and, BitVec.toNat_or, BitVec.toNat_xor, ofIntN, Nat.mod_eq_of_lt ha, Nat.mod_eq_of_lt hb]
  have h2 : (a &&& b) < 2 ^ kd.bits := Nat.and_lt_two_pow a hb
  simp only [execOp, hx, hy, eqGuard, binOp, Op.intBits, h1, IntKind.wrapN hs, Nat.mod_eq_of_lt h2]
  simp
theorem s_andN {kd : IntKind} {a b M : Nat} (hM : 2 ^ kd.bits = M) (hs : kd.signed = false) (hx : ev n f x = .int kd (a : Int)) (hy : ev n f y = .int kd (b : Int)) (ha : a < M) (hb : b < M) (k : wpList P ops Q rest (act n (upd f d (.int kd ((a &&& b : Nat) : Int)))) w) : wpList P ops Q (⟨some d, .binOp .and t x y t', ty, pos, af, none⟩ :: rest) (act n f) w :=
  s_val rfl (r_andN hM hs hx hy ha hb) k
theorem r_orN {kd : IntKind} {a b M : Nat} (hM : 2 ^ kd.bits = M) (hs : kd.signed = false) (hx : ev n f x = .int kd (a : Int)) (hy : ev n f y = .int kd (b : Int)) (ha : a < M) (hb : b < M) : (execOp (ev n f) ⟨some d, .binOp .or t x y t', ty, pos, af, gd⟩).run P w = .ok (.value (.int kd ((a ||| b : Nat) : Int))) w := by
  subst hM
  have h1 : (BitVec.ofInt kd.bits (a : Int) ||| BitVec.ofInt kd.bits (b : Int)).toNat = a ||| b := by
    simp only [BitVec.toNat_and, BitVec.toNat_or, BitVec.toNat_xor, ofIntN, Nat.mod_eq_of_lt ha, Nat.mod_eq_of_lt hb]
  have h2 : (a ||| b) < 2 ^ kd.bits := Nat.or_lt_two_pow ha hb
  simp only [execOp, hx, hy, eqGuard, binOp, Op.intBits, h1, IntKind.wrapN hs, Nat.mod_eq_of_lt h2]
  simp
theorem s_orN {kd : IntKind} {a b M : Nat} (hM : 2 ^ kd.bits = M) (hs : kd.signed = false) (hx : ev n f x = .int kd (a : Int)) (hy : ev n f y = .int kd (b : Int)) (ha : a < M) (hb : b < M) (k : wpList P ops Q rest (act n (upd f d (.int kd ((a ||| b : Nat) : Int)))) w) : wpList P ops Q (⟨some d, .binOp .or t x y t', ty, pos, af, none⟩ :: rest) (act n f) w :=
  s_val rfl (r_orN hM hs hx hy ha hb) k
theorem r_xorN {kd : IntKind} {a b M : Nat} (hM : 2 ^ kd.bits = M) (hs : kd.signed = false) (hx : ev n f x = .int kd (a : Int)) (hy : ev n f y = .int kd (b : Int)) (ha : a < M) (hb : b < M) : (execOp (ev n f) ⟨some d, .binOp .xor t x y t', ty, pos, af, gd⟩).run P w = .ok (.value (.int kd ((a ^^^ b : Nat) : Int))) w := by
  subst hM
  have h1 : (BitVec.ofInt kd.bits (a : Int) ^^^ BitVec.ofInt kd.bits (b : Int)).toNat = a ^^^ b := by
    simp only [BitVec.toNat_and, BitVec.toNat_or, BitVec.toNat_xor, ofIntN, Nat.mod_eq_of_lt ha, Nat.mod_eq_of_lt hb]
  have h2 : (a ^^^ b) < 2 ^ kd.bits := Nat.xor_lt_two_pow ha hb
  simp only [execOp, hx, hy, eqGuard, binOp, Op.intBits, h1, IntKind.wrapN hs, Nat.mod_eq_of_lt h2]
  simp
theorem s_xorN {kd : IntKind} {a b M : Nat} (hM : 2 ^ kd.bits = M) (hs : kd.signed = false) (hx : ev n f x = .int kd (a : Int)) (hy : ev n f y = .int kd (b : Int)) (ha : a < M) (hb : b < M) (k : wpList P ops Q rest (act n (upd f d (.int kd ((a ^^^ b : Nat) : Int)))) w) : wpList P ops Q (⟨some d, .binOp .xor t x y t', ty, pos, af, none⟩ :: rest) (act n f) w :=
  s_val rfl (r_xorN hM hs hx hy ha hb) k
theorem r_comN {kd : IntKind} {a M : Nat} (hM : 2 ^ kd.bits = M) (hs : kd.signed = false) (hx : ev n f x = .int kd (a : Int)) (ha : a < M) : (execOp (ev n f) ⟨some d, .unOp .xor t x, ty, pos, af, gd⟩).run P w = .ok (.value (.int kd ((M - 1 - a : Nat) : Int))) w := by
  subst hM
  have h0 : kd.max = ((2 ^ kd.bits - 1 : Nat) : Int) := by
    have : 0 < 2 ^ kd.bits := Nat.two_pow_pos _
    rw [Int.ofNat_sub this]
    simp [IntKind.max, hs]
  have h1 : (BitVec.ofInt kd.bits ((2 ^ kd.bits - 1 : Nat) : Int) ^^^ BitVec.ofInt kd.bits (a : Int)) = ~~~ BitVec.ofInt kd.bits (a : Int) := by
    have : BitVec.ofInt kd.bits ((2 ^ kd.bits - 1 : Nat) : Int) = BitVec.allOnes kd.bits := by
      apply BitVec.eq_of_toNat_eq
      rw [ofIntN, BitVec.toNat_allOnes]
      exact Nat.mod_eq_of_lt (by have := Nat.two_pow_pos kd.bits; omega)
    rw [this, BitVec.allOnes_xor]
  have h2 : (~~~ BitVec.ofInt kd.bits (a : Int)).toNat = 2 ^ kd.bits - 1 - a := by rw [BitVec.toNat_not, ofIntN, Nat.mod_eq_of_lt ha]
  have h3 : 2 ^ kd.bits - 1 - a < 2 ^ kd.bits := by have := Nat.two_pow_pos kd.bits; omega
  simp only [execOp, hx, Op.unary, Op.intBits, hs, h0, h1, h2, IntKind.wrapN hs, Nat.mod_eq_of_lt h3, Bool.false_eq_true, if_false]
  simp
theorem s_comN {kd : IntKind} {a M : Nat} (hM : 2 ^ kd.bits = M) (hs : kd.signed = false) (hx : ev n f x = .int kd (a : Int)) (ha : a < M) (k : wpList P ops Q rest (act n (upd f d (.int kd ((M - 1 - a : Nat) : Int)))) w) : wpList P ops Q (⟨some d, .unOp .xor t x, ty, pos, af, none⟩ :: rest) (act n f) w :=
  s_val rfl (r_comN hM hs hx ha) k
theorem r_shrN {kd ky : IntKind} {a b : Nat} (hs : kd.signed = false) (hx : ev n f x = .int kd (a : Int)) (hy : ev n f y = .int ky (b : Int)) (hb : b ≤ kd.bits) : (execOp (ev n f) ⟨some d, .binOp .shr t x y t', ty, pos, af, gd⟩).run P w = .ok (.value (.int kd ((a / 2 ^ b : Nat) : Int))) w := by
  have h1 : ¬ ((b : Int) < 0) := by omega
  have h2 : min b kd.bits = b := Nat.min_eq_left hb
  have h3 : ((a : Int).fdiv (2 ^ b)) = ((a / 2 ^ b : Nat) : Int) := by
    rw [Int.fdiv_eq_ediv_of_nonneg _ (Int.pow_nonneg (by decide))]
    simp
  simp only [execOp, hx, hy, eqGuard, binOp, Op.shift, Int.toNat_natCast, h2, h3]
  simp [h1, h3]
theorem s_shrN {kd ky : IntKind} {a b : Nat} (hs : kd.signed = false) (hx : ev n f x = .int kd (a : Int)) (hy : ev n f y = .int ky (b : Int)) (hb : b ≤ kd.bits) (k : wpList P ops Q rest (act n (upd f d (.int kd ((a / 2 ^ b : Nat) : Int)))) w) : wpList P ops Q (⟨some d, .binOp .shr t x y t', ty, pos, af, none⟩ :: rest) (act n f) w :=
  s_val rfl (r_shrN hs hx hy hb) k
theorem r_shlN {kd ky : IntKind} {a b M : Nat} (hM : 2 ^ kd.bits = M) (hs : kd.signed = false) (hx : ev n f x = .int kd (a : Int)) (hy : ev n f y = .int ky (b : Int)) (hb : b ≤ kd.bits) : (execOp (ev n f) ⟨some d, .binOp .shl t x y t', ty, pos, af, gd⟩).run P w = .ok (.value (.int kd ((a * 2 ^ b % M : Nat) : Int))) w := by
  subst hM
  have h1 : ¬ ((b : Int) < 0) := by omega
  have h2 : min b kd.bits = b := Nat.min_eq_left hb
  have h3 : kd.wrap ((a : Int) * 2 ^ b) = ((a * 2 ^ b % 2 ^ kd.bits : Nat) : Int) := by rw [← IntKind.wrapN hs]; simp
  simp only [execOp, hx, hy, eqGuard, binOp, Op.shift, Int.toNat_natCast, h2, h3]
  simp [h1, h3]
theorem s_shlN {kd ky : IntKind} {a b M : Nat} (hM : 2 ^ kd.bits = M) (hs : kd.signed = false) (hx : ev n f x = .int kd (a : Int)) (hy : ev n f y = .int ky (b : Int)) (hb : b ≤ kd.bits) (k : wpList P ops Q rest (act n (upd f d (.int kd ((a * 2 ^ b % M : Nat) : Int)))) w) : wpList P ops Q (⟨some d, .binOp .shl t x y t', ty, pos, af, none⟩ :: rest) (act n f) w :=
  s_val rfl (r_shlN hM hs hx hy hb) k
theorem r_convN {ks kd : IntKind} {a M : Nat} {src dst : TypeId} {u : TypeDesc} (hu : P.underlying src = some u) (hd : P.underlying dst = some (.int kd)) (hM : 2 ^ kd.bits = M) (hs : kd.signed = false) (hx : ev n f x = .int ks (a : Int)) (ha : a < M) : (execOp (ev n f) ⟨some d, .convert src dst x, ty, pos, af, gd⟩).run P w = .ok (.value (.int kd ((a : Nat) : Int))) w := by
  subst hM
  rw [r_conv hu hd hx, IntKind.wrapN hs, Nat.mod_eq_of_lt ha]
theorem s_convN {ks kd : IntKind} {a M : Nat} {src dst : TypeId} {u : TypeDesc} (hu : P.underlying src = some u) (hd : P.underlying dst = some (.int kd)) (hM : 2 ^ kd.bits = M) (hs : kd.signed = false) (hx : ev n f x = .int ks (a : Int)) (ha : a < M) (k : wpList P ops Q rest (act n (upd f d (.int kd ((a : Nat) : Int)))) w) : wpList P ops Q (⟨some d, .convert src dst x, ty, pos, af, none⟩ :: rest) (act n f) w :=
  s_val rfl (r_convN hu hd hM hs hx ha) k
theorem r_convM {ks kd : IntKind} {a M : Nat} {src dst : TypeId} {u : TypeDesc} (hu : P.underlying src = some u) (hd : P.underlying dst = some (.int kd)) (hM : 2 ^ kd.bits = M) (hs : kd.signed = false) (hx : ev n f x = .int ks (a : Int)) : (execOp (ev n f) ⟨some d, .convert src dst x, ty, pos, af, gd⟩).run P w = .ok (.value (.int kd ((a % M : Nat) : Int))) w := by
  subst hM
  rw [r_conv hu hd hx, IntKind.wrapN hs]
theorem s_convM {ks kd : IntKind} {a M : Nat} {src dst : TypeId} {u : TypeDesc} (hu : P.underlying src = some u) (hd : P.underlying dst = some (.int kd)) (hM : 2 ^ kd.bits = M) (hs : kd.signed = false) (hx : ev n f x = .int ks (a : Int)) (k : wpList P ops Q rest (act n (upd f d (.int kd ((a % M : Nat) : Int)))) w) : wpList P ops Q (⟨some d, .convert src dst x, ty, pos, af, none⟩ :: rest) (act n f) w :=
  s_val rfl (r_convM hu hd hM hs hx) k
theorem r_convI {ks : IntKind} {a : Int} {src dst : TypeId} {u : TypeDesc} (hu : P.underlying src = some u) (hd : P.underlying dst = some (.int .i64)) (hx : ev n f x = .int ks a) (h0 : -9223372036854775808 ≤ a) (h1 : a ≤ 9223372036854775807) : (execOp (ev n f) ⟨some d, .convert src dst x, ty, pos, af, gd⟩).run P w = .ok (.value (.int .i64 a)) w := by
  rw [r_conv hu hd hx, wrap_id (k := .i64) h0 h1]
theorem s_convI {ks : IntKind} {a : Int} {src dst : TypeId} {u : TypeDesc} (hu : P.underlying src = some u) (hd : P.underlying dst = some (.int .i64)) (hx : ev n f x = .int ks a) (h0 : -9223372036854775808 ≤ a) (h1 : a ≤ 9223372036854775807) (k : wpList P ops Q rest (act n (upd f d (.int .i64 a))) w) : wpList P ops Q (⟨some d, .convert src dst x, ty, pos, af, none⟩ :: rest) (act n f) w :=
  s_val rfl (r_convI hu hd hx h0 h1) k
end
end Go.GV
