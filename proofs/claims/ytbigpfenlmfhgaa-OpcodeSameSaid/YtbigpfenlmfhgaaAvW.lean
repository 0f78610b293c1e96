/- A part of the proof that the row of the law holds of the program as translated: lemmas and contracts of its functions. -/
import Derived.Test.YtbigpfenlmfhgaaGvW
import Derived.Test.YtbigpfenlmfhgaaGvX
import Derived.Test.YtbigpfenlmfhgaaAvO
import Derived.Laws.StructEq
import Derived.KernelRfl
set_option linter.unusedVariables false
set_option linter.unusedSimpArgs false
namespace Go.AV
open Go.GV
/-! ### 1. A piece of code, and what holds behind it -/
section
variable {P : Program} {Q : Exit → Act → World → Prop} {n : Nat} {f : Fr} {w : World} {L : Hp}
theorem c_cutL {x y : Code} (hO : Own w L) (M : Hp → Fr → Fr → World → Prop) (hx : x.wp P (Exit.then (fun a' w' => ∃ g, a' = act n g ∧ M L f g w') Q) (act n f) w) (hy : ∀ g w', M L f g w' → y.wp P Q (act n g) w') : (Code.seq x y).wp P Q (act n f) w := by
  refine wp_seq (wp_mono hx ?_)
  intro e a w' h
  cases e with
  | normal => obtain ⟨g, rfl, hm⟩ := h; exact hy g w' hm
  | _ => exact h
theorem k_end {M : Fr → World → Prop} (h : M f w) : ∃ g, act n f = act n g ∧ M g w := ⟨f, rfl, h⟩
end
theorem wrap_i64 (x : Int) : IntKind.i64.wrap x = w64 x := by
  unfold IntKind.wrap w64
  simp only [IntKind.bits, IntKind.signed, Bool.true_and]
  by_cases h : x % 2 ^ 64 ≥ 2 ^ (64 - 1)
  · rw [if_pos (by simpa using h)]
    simp at h
    omega
  · rw [if_neg (by simpa using h)]
    simp at h
    omega
theorem wrap_u (k : IntKind) (hs : k.signed = false) (x : Int) : k.wrap x = x % (2 ^ k.bits : Int) := by
  unfold IntKind.wrap
  simp [hs]
section
variable {P : Program} {ops : Array Oper} {Q : Exit → Act → World → Prop} {rest : List Oper} {n : Nat} {f : Fr} {w : World} {L : Hp} {d : Tmp} {ty t t' : TypeId} {pos : String} {af : Array Edge} {x y z : Operand} {gd : Option (Nat × Bool)}
theorem strOf_size (s : List UInt8) : (strOf s).size = s.length := rfl
/-! ### 2. Operations -/
theorem r_addI {a b : Int} (hx : ev n f x = .int .i64 a) (hy : ev n f y = .int .i64 b) : (execOp (ev n f) ⟨some d, .binOp .add t x y t', ty, pos, af, gd⟩).run P w = .ok (.value (.int .i64 (w64 (a + b)))) w := by rw [← wrap_i64]; exact r_addw hx hy
theorem r_subI {a b : Int} (hx : ev n f x = .int .i64 a) (hy : ev n f y = .int .i64 b) : (execOp (ev n f) ⟨some d, .binOp .sub t x y t', ty, pos, af, gd⟩).run P w = .ok (.value (.int .i64 (w64 (a - b)))) w := by rw [← wrap_i64]; exact r_subw hx hy
theorem r_mulI {a b : Int} (hx : ev n f x = .int .i64 a) (hy : ev n f y = .int .i64 b) : (execOp (ev n f) ⟨some d, .binOp .mul t x y t', ty, pos, af, gd⟩).run P w = .ok (.value (.int .i64 (w64 (a * b)))) w := by rw [← wrap_i64]; exact r_mulw hx hy
theorem r_quoI {a b : Int} (hx : ev n f x = .int .i64 a) (hy : ev n f y = .int .i64 b) (hb : b ≠ 0) : (execOp (ev n f) ⟨some d, .binOp .quo t x y t', ty, pos, af, gd⟩).run P w = .ok (.value (.int .i64 (w64 (a.tdiv b)))) w := by rw [← wrap_i64]; exact r_quow hx hy hb
theorem r_remI {a b : Int} (hx : ev n f x = .int .i64 a) (hy : ev n f y = .int .i64 b) (hb : b ≠ 0) : (execOp (ev n f) ⟨some d, .binOp .rem t x y t', ty, pos, af, gd⟩).run P w = .ok (.value (.int .i64 (a.tmod b))) w := r_remw hx hy hb
theorem r_negI {a : Int} (hx : ev n f x = .int .i64 a) : (execOp (ev n f) ⟨some d, .unOp .neg t x, ty, pos, af, gd⟩).run P w = .ok (.value (.int .i64 (w64 (-a)))) w := by rw [← wrap_i64, show -a = 0 - a by omega]; exact r_neg hx
theorem r_shlI {a b : Int} {ky : IntKind} (hx : ev n f x = .int .i64 a) (hy : ev n f y = .int ky b) (hb : 0 ≤ b) : (execOp (ev n f) ⟨some d, .binOp .shl t x y t', ty, pos, af, gd⟩).run P w = .ok (.value (.int .i64 (ishl a b))) w := by unfold ishl; rw [← wrap_i64]; exact r_shl hx hy hb
theorem r_shrI {a b : Int} {ky : IntKind} (hx : ev n f x = .int .i64 a) (hy : ev n f y = .int ky b) (hb : 0 ≤ b) : (execOp (ev n f) ⟨some d, .binOp .shr t x y t', ty, pos, af, gd⟩).run P w = .ok (.value (.int .i64 (ishr a b))) w := r_shr hx hy hb
theorem wrap_toInt (b : BitVec 64) : IntKind.i64.wrap (b.toNat : Int) = b.toInt := by
  rw [wrap_i64, BitVec.toInt_eq_toNat_cond]
  have := b.isLt
  unfold w64
  split <;> omega
theorem r_andI {a b : Int} (hx : ev n f x = .int .i64 a) (hy : ev n f y = .int .i64 b) : (execOp (ev n f) ⟨some d, .binOp .and t x y t', ty, pos, af, gd⟩).run P w = .ok (.value (.int .i64 (iand a b))) w := by
  unfold iand; rw [← wrap_toInt]; exact r_bitw hx hy (by simp) rfl
theorem r_orI {a b : Int} (hx : ev n f x = .int .i64 a) (hy : ev n f y = .int .i64 b) : (execOp (ev n f) ⟨some d, .binOp .or t x y t', ty, pos, af, gd⟩).run P w = .ok (.value (.int .i64 (ior a b))) w := by
  unfold ior; rw [← wrap_toInt]; exact r_bitw hx hy (by simp) rfl
theorem r_xorI {a b : Int} (hx : ev n f x = .int .i64 a) (hy : ev n f y = .int .i64 b) : (execOp (ev n f) ⟨some d, .binOp .xor t x y t', ty, pos, af, gd⟩).run P w = .ok (.value (.int .i64 (ixor a b))) w := by
  unfold ixor; rw [← wrap_toInt]; exact r_bitw hx hy (by simp) rfl
theorem r_add8 (a b : UInt8) (hx : ev n f x = .int .u8 (a.toNat : Int)) (hy : ev n f y = .int .u8 (b.toNat : Int)) : (execOp (ev n f) ⟨some d, .binOp .add t x y t', ty, pos, af, gd⟩).run P w = .ok (.value (.int .u8 ((a + b).toNat : Int))) w := by
  have h := r_addw (P := P) (w := w) (d := d) (t := t) (t' := t') (ty := ty) (pos := pos) (af := af) (gd := gd) hx hy
  rw [wrap_u _ rfl] at h
  rw [h, UInt8.toNat_add]
  have h1 := a.toNat_lt
  have h2 := b.toNat_lt
  simp only [IntKind.bits]
  congr 3
  try (first | omega | (push_cast; rfl) | (simp; omega))
theorem r_sub8 (a b : UInt8) (hx : ev n f x = .int .u8 (a.toNat : Int)) (hy : ev n f y = .int .u8 (b.toNat : Int)) : (execOp (ev n f) ⟨some d, .binOp .sub t x y t', ty, pos, af, gd⟩).run P w = .ok (.value (.int .u8 ((a - b).toNat : Int))) w := by
  have h := r_subw (P := P) (w := w) (d := d) (t := t) (t' := t') (ty := ty) (pos := pos) (af := af) (gd := gd) hx hy
  rw [wrap_u _ rfl] at h
  rw [h, UInt8.toNat_sub]
  have h1 := a.toNat_lt
  have h2 := b.toNat_lt
  simp only [IntKind.bits]
  congr 3
  try (first | omega | (push_cast; rfl) | (simp; omega))
theorem r_mul8 (a b : UInt8) (hx : ev n f x = .int .u8 (a.toNat : Int)) (hy : ev n f y = .int .u8 (b.toNat : Int)) : (execOp (ev n f) ⟨some d, .binOp .mul t x y t', ty, pos, af, gd⟩).run P w = .ok (.value (.int .u8 ((a * b).toNat : Int))) w := by
  have h := r_mulw (P := P) (w := w) (d := d) (t := t) (t' := t') (ty := ty) (pos := pos) (af := af) (gd := gd) hx hy
  rw [wrap_u _ rfl] at h
  rw [h, UInt8.toNat_mul]
  have h1 := a.toNat_lt
  have h2 := b.toNat_lt
  simp only [IntKind.bits]
  congr 3
  try (first | omega | (push_cast; rfl) | (simp; omega))
theorem r_and8 (a b : UInt8) (hx : ev n f x = .int .u8 (a.toNat : Int)) (hy : ev n f y = .int .u8 (b.toNat : Int)) : (execOp (ev n f) ⟨some d, .binOp .and t x y t', ty, pos, af, gd⟩).run P w = .ok (.value (.int .u8 ((a &&& b).toNat : Int))) w := by
  rw [UInt8.toNat_and]; exact r_andN (M := 256) rfl rfl hx hy a.toNat_lt b.toNat_lt
theorem r_or8 (a b : UInt8) (hx : ev n f x = .int .u8 (a.toNat : Int)) (hy : ev n f y = .int .u8 (b.toNat : Int)) : (execOp (ev n f) ⟨some d, .binOp .or t x y t', ty, pos, af, gd⟩).run P w = .ok (.value (.int .u8 ((a ||| b).toNat : Int))) w := by
  rw [UInt8.toNat_or]; exact r_orN (M := 256) rfl rfl hx hy a.toNat_lt b.toNat_lt
theorem r_xor8 (a b : UInt8) (hx : ev n f x = .int .u8 (a.toNat : Int)) (hy : ev n f y = .int .u8 (b.toNat : Int)) : (execOp (ev n f) ⟨some d, .binOp .xor t x y t', ty, pos, af, gd⟩).run P w = .ok (.value (.int .u8 ((a ^^^ b).toNat : Int))) w := by
  rw [UInt8.toNat_xor]; exact r_xorN (M := 256) rfl rfl hx hy a.toNat_lt b.toNat_lt
theorem r_com8 (a : UInt8) (hx : ev n f x = .int .u8 (a.toNat : Int)) : (execOp (ev n f) ⟨some d, .unOp .xor t x, ty, pos, af, gd⟩).run P w = .ok (.value (.int .u8 ((~~~ a).toNat : Int))) w := by
  have h := r_comN (P := P) (w := w) (d := d) (t := t) (ty := ty) (pos := pos) (af := af) (gd := gd) (M := 256) rfl rfl hx a.toNat_lt
  rw [h]
  congr 3
  try (first | rfl | simp [UInt8.toNat_not])
theorem r_quo8 (a b : UInt8) (hx : ev n f x = .int .u8 (a.toNat : Int)) (hy : ev n f y = .int .u8 (b.toNat : Int)) (hb : b ≠ 0) : (execOp (ev n f) ⟨some d, .binOp .quo t x y t', ty, pos, af, gd⟩).run P w = .ok (.value (.int .u8 ((a / b).toNat : Int))) w := by
  have h1 := a.toNat_lt
  have hb' : (b.toNat : Int) ≠ 0 := fun e => hb (UInt8.toNat_inj.1 (by simpa using e))
  have h := r_quow (P := P) (w := w) (d := d) (t := t) (t' := t') (ty := ty) (pos := pos) (af := af) (gd := gd) hx hy hb'
  have h3 : ((a.toNat : Int).tdiv (b.toNat : Int)) = ((a.toNat / b.toNat : Nat) : Int) := rfl
  have h2 : a.toNat / b.toNat ≤ a.toNat := Nat.div_le_self _ _
  rw [wrap_u _ rfl, h3] at h
  rw [h, UInt8.toNat_div]
  simp only [IntKind.bits]
  generalize a.toNat / b.toNat = q at h2 ⊢
  congr 3
  omega
theorem r_rem8 (a b : UInt8) (hx : ev n f x = .int .u8 (a.toNat : Int)) (hy : ev n f y = .int .u8 (b.toNat : Int)) (hb : b ≠ 0) : (execOp (ev n f) ⟨some d, .binOp .rem t x y t', ty, pos, af, gd⟩).run P w = .ok (.value (.int .u8 ((a % b).toNat : Int))) w := by
  have hb' : (b.toNat : Int) ≠ 0 := fun e => hb (UInt8.toNat_inj.1 (by simpa using e))
  have h := r_remw (P := P) (w := w) (d := d) (t := t) (t' := t') (ty := ty) (pos := pos) (af := af) (gd := gd) hx hy hb'
  rw [h, UInt8.toNat_mod]
  rfl
theorem r_shl8 (a : UInt8) {b : Int} {ky : IntKind} (hx : ev n f x = .int .u8 (a.toNat : Int)) (hy : ev n f y = .int ky b) (hb : 0 ≤ b) : (execOp (ev n f) ⟨some d, .binOp .shl t x y t', ty, pos, af, gd⟩).run P w = .ok (.value (.int .u8 ((UInt8.ofNat (a.toNat * 2 ^ (min b.toNat 8))).toNat : Int))) w := by
  have h := r_shl (P := P) (w := w) (d := d) (t := t) (t' := t') (ty := ty) (pos := pos) (af := af) (gd := gd) hx hy hb
  rw [wrap_u _ rfl] at h
  rw [h]
  simp only [IntKind.bits]
  have e1 : (a.toNat : Int) * 2 ^ (min b.toNat 8) = ((a.toNat * 2 ^ (min b.toNat 8) : Nat) : Int) := by simp
  have e2 : (UInt8.ofNat (a.toNat * 2 ^ (min b.toNat 8))).toNat = (a.toNat * 2 ^ (min b.toNat 8)) % 2 ^ 8 := rfl
  rw [e1, e2]
  rfl
theorem r_shr8 (a : UInt8) {b : Int} {ky : IntKind} (hx : ev n f x = .int .u8 (a.toNat : Int)) (hy : ev n f y = .int ky b) (hb : 0 ≤ b) : (execOp (ev n f) ⟨some d, .binOp .shr t x y t', ty, pos, af, gd⟩).run P w = .ok (.value (.int .u8 ((UInt8.ofNat (a.toNat / 2 ^ (min b.toNat 8))).toNat : Int))) w := by
  have h := r_shr (P := P) (w := w) (d := d) (t := t) (t' := t') (ty := ty) (pos := pos) (af := af) (gd := gd) hx hy hb
  rw [h]
  simp only [IntKind.bits]
  have h1 := a.toNat_lt
  have h2 : a.toNat / 2 ^ (min b.toNat 8) ≤ a.toNat := Nat.div_le_self _ _
  have h3 : (UInt8.ofNat (a.toNat / 2 ^ (min b.toNat 8))).toNat = a.toNat / 2 ^ (min b.toNat 8) := by
    rw [UInt8.toNat_ofNat_of_lt' (by simpa [UInt8.size] using (by omega : a.toNat / 2 ^ (min b.toNat 8) < 256))]
  rw [h3, Int.fdiv_eq_ediv_of_nonneg _ (by exact Int.pow_nonneg (by decide))]
  congr 3
theorem r_cvI8 {ks : IntKind} {a : Int} {src dst : TypeId} {u : TypeDesc} (hu : P.underlying src = some u) (hd : P.underlying dst = some (.int .u8)) (hx : ev n f x = .int ks a) : (execOp (ev n f) ⟨some d, .convert src dst x, ty, pos, af, gd⟩).run P w = .ok (.value (.int .u8 ((UInt8.ofInt a).toNat : Int))) w := by
  have h := r_conv (P := P) (w := w) (d := d) (ty := ty) (pos := pos) (af := af) (gd := gd) hu hd hx
  rw [wrap_u _ rfl] at h
  rw [h]
  simp only [IntKind.bits]
  congr 3
  try (rw [UInt8.ofInt, UInt8.toNat_ofNat']
       have : (0 : Int) ≤ a % 2 ^ 8 := Int.emod_nonneg _ (by decide)
       have h2 : a % 2 ^ 8 < 2 ^ 8 := Int.emod_lt_of_pos _ (by decide)
       omega)
theorem r_cv16to8 (a : UInt16) {src dst : TypeId} {u : TypeDesc} (hu : P.underlying src = some u) (hd : P.underlying dst = some (.int .u8)) (hx : ev n f x = .int .u16 (a.toNat : Int)) : (execOp (ev n f) ⟨some d, .convert src dst x, ty, pos, af, gd⟩).run P w = .ok (.value (.int .u8 (a.toUInt8.toNat : Int))) w := by
  have h := r_conv (P := P) (w := w) (d := d) (ty := ty) (pos := pos) (af := af) (gd := gd) hu hd hx
  rw [wrap_u _ rfl] at h
  rw [h]
  simp only [IntKind.bits]
  have := a.toNat_lt
  congr 3
  try (simp <;> omega)
theorem r_cv32to8 (a : UInt32) {src dst : TypeId} {u : TypeDesc} (hu : P.underlying src = some u) (hd : P.underlying dst = some (.int .u8)) (hx : ev n f x = .int .u32 (a.toNat : Int)) : (execOp (ev n f) ⟨some d, .convert src dst x, ty, pos, af, gd⟩).run P w = .ok (.value (.int .u8 (a.toUInt8.toNat : Int))) w := by
  have h := r_conv (P := P) (w := w) (d := d) (ty := ty) (pos := pos) (af := af) (gd := gd) hu hd hx
  rw [wrap_u _ rfl] at h
  rw [h]
  simp only [IntKind.bits]
  have := a.toNat_lt
  congr 3
  try (simp <;> omega)
theorem r_cv64to8 (a : UInt64) {src dst : TypeId} {u : TypeDesc} (hu : P.underlying src = some u) (hd : P.underlying dst = some (.int .u8)) (hx : ev n f x = .int .u64 (a.toNat : Int)) : (execOp (ev n f) ⟨some d, .convert src dst x, ty, pos, af, gd⟩).run P w = .ok (.value (.int .u8 (a.toUInt8.toNat : Int))) w := by
  have h := r_conv (P := P) (w := w) (d := d) (ty := ty) (pos := pos) (af := af) (gd := gd) hu hd hx
  rw [wrap_u _ rfl] at h
  rw [h]
  simp only [IntKind.bits]
  have := a.toNat_lt
  congr 3
  try (simp <;> omega)
theorem r_cv8I (a : UInt8) {src dst : TypeId} {u : TypeDesc} (hu : P.underlying src = some u) (hd : P.underlying dst = some (.int .i64)) (hx : ev n f x = .int .u8 (a.toNat : Int)) : (execOp (ev n f) ⟨some d, .convert src dst x, ty, pos, af, gd⟩).run P w = .ok (.value (.int .i64 (a.toNat : Int))) w := by
  have h := r_conv (P := P) (w := w) (d := d) (ty := ty) (pos := pos) (af := af) (gd := gd) hu hd hx
  rw [wrap_i64] at h
  rw [h]
  have := a.toNat_lt
  rw [w64_id (by omega) (by omega)]
theorem r_add16 (a b : UInt16) (hx : ev n f x = .int .u16 (a.toNat : Int)) (hy : ev n f y = .int .u16 (b.toNat : Int)) : (execOp (ev n f) ⟨some d, .binOp .add t x y t', ty, pos, af, gd⟩).run P w = .ok (.value (.int .u16 ((a + b).toNat : Int))) w := by
  have h := r_addw (P := P) (w := w) (d := d) (t := t) (t' := t') (ty := ty) (pos := pos) (af := af) (gd := gd) hx hy
  rw [wrap_u _ rfl] at h
  rw [h, UInt16.toNat_add]
  have h1 := a.toNat_lt
  have h2 := b.toNat_lt
  simp only [IntKind.bits]
  congr 3
  try (first | omega | (push_cast; rfl) | (simp; omega))
theorem r_sub16 (a b : UInt16) (hx : ev n f x = .int .u16 (a.toNat : Int)) (hy : ev n f y = .int .u16 (b.toNat : Int)) : (execOp (ev n f) ⟨some d, .binOp .sub t x y t', ty, pos, af, gd⟩).run P w = .ok (.value (.int .u16 ((a - b).toNat : Int))) w := by
  have h := r_subw (P := P) (w := w) (d := d) (t := t) (t' := t') (ty := ty) (pos := pos) (af := af) (gd := gd) hx hy
  rw [wrap_u _ rfl] at h
  rw [h, UInt16.toNat_sub]
  have h1 := a.toNat_lt
  have h2 := b.toNat_lt
  simp only [IntKind.bits]
  congr 3
  try (first | omega | (push_cast; rfl) | (simp; omega))
theorem r_mul16 (a b : UInt16) (hx : ev n f x = .int .u16 (a.toNat : Int)) (hy : ev n f y = .int .u16 (b.toNat : Int)) : (execOp (ev n f) ⟨some d, .binOp .mul t x y t', ty, pos, af, gd⟩).run P w = .ok (.value (.int .u16 ((a * b).toNat : Int))) w := by
  have h := r_mulw (P := P) (w := w) (d := d) (t := t) (t' := t') (ty := ty) (pos := pos) (af := af) (gd := gd) hx hy
  rw [wrap_u _ rfl] at h
  rw [h, UInt16.toNat_mul]
  have h1 := a.toNat_lt
  have h2 := b.toNat_lt
  simp only [IntKind.bits]
  congr 3
  try (first | omega | (push_cast; rfl) | (simp; omega))
theorem r_and16 (a b : UInt16) (hx : ev n f x = .int .u16 (a.toNat : Int)) (hy : ev n f y = .int .u16 (b.toNat : Int)) : (execOp (ev n f) ⟨some d, .binOp .and t x y t', ty, pos, af, gd⟩).run P w = .ok (.value (.int .u16 ((a &&& b).toNat : Int))) w := by
  rw [UInt16.toNat_and]; exact r_andN (M := 65536) rfl rfl hx hy a.toNat_lt b.toNat_lt
theorem r_or16 (a b : UInt16) (hx : ev n f x = .int .u16 (a.toNat : Int)) (hy : ev n f y = .int .u16 (b.toNat : Int)) : (execOp (ev n f) ⟨some d, .binOp .or t x y t', ty, pos, af, gd⟩).run P w = .ok (.value (.int .u16 ((a ||| b).toNat : Int))) w := by
  rw [UInt16.toNat_or]; exact r_orN (M := 65536) rfl rfl hx hy a.toNat_lt b.toNat_lt
theorem r_xor16 (a b : UInt16) (hx : ev n f x = .int .u16 (a.toNat : Int)) (hy : ev n f y = .int .u16 (b.toNat : Int)) : (execOp (ev n f) ⟨some d, .binOp .xor t x y t', ty, pos, af, gd⟩).run P w = .ok (.value (.int .u16 ((a ^^^ b).toNat : Int))) w := by
  rw [UInt16.toNat_xor]; exact r_xorN (M := 65536) rfl rfl hx hy a.toNat_lt b.toNat_lt
theorem r_com16 (a : UInt16) (hx : ev n f x = .int .u16 (a.toNat : Int)) : (execOp (ev n f) ⟨some d, .unOp .xor t x, ty, pos, af, gd⟩).run P w = .ok (.value (.int .u16 ((~~~ a).toNat : Int))) w := by
  have h := r_comN (P := P) (w := w) (d := d) (t := t) (ty := ty) (pos := pos) (af := af) (gd := gd) (M := 65536) rfl rfl hx a.toNat_lt
  rw [h]
  congr 3
  try (first | rfl | simp [UInt16.toNat_not])
theorem r_quo16 (a b : UInt16) (hx : ev n f x = .int .u16 (a.toNat : Int)) (hy : ev n f y = .int .u16 (b.toNat : Int)) (hb : b ≠ 0) : (execOp (ev n f) ⟨some d, .binOp .quo t x y t', ty, pos, af, gd⟩).run P w = .ok (.value (.int .u16 ((a / b).toNat : Int))) w := by
  have h1 := a.toNat_lt
  have hb' : (b.toNat : Int) ≠ 0 := fun e => hb (UInt16.toNat_inj.1 (by simpa using e))
  have h := r_quow (P := P) (w := w) (d := d) (t := t) (t' := t') (ty := ty) (pos := pos) (af := af) (gd := gd) hx hy hb'
  have h3 : ((a.toNat : Int).tdiv (b.toNat : Int)) = ((a.toNat / b.toNat : Nat) : Int) := rfl
  have h2 : a.toNat / b.toNat ≤ a.toNat := Nat.div_le_self _ _
  rw [wrap_u _ rfl, h3] at h
  rw [h, UInt16.toNat_div]
  simp only [IntKind.bits]
  generalize a.toNat / b.toNat = q at h2 ⊢
  congr 3
  omega
theorem r_rem16 (a b : UInt16) (hx : ev n f x = .int .u16 (a.toNat : Int)) (hy : ev n f y = .int .u16 (b.toNat : Int)) (hb : b ≠ 0) : (execOp (ev n f) ⟨some d, .binOp .rem t x y t', ty, pos, af, gd⟩).run P w = .ok (.value (.int .u16 ((a % b).toNat : Int))) w := by
  have hb' : (b.toNat : Int) ≠ 0 := fun e => hb (UInt16.toNat_inj.1 (by simpa using e))
  have h := r_remw (P := P) (w := w) (d := d) (t := t) (t' := t') (ty := ty) (pos := pos) (af := af) (gd := gd) hx hy hb'
  rw [h, UInt16.toNat_mod]
  rfl
theorem r_shl16 (a : UInt16) {b : Int} {ky : IntKind} (hx : ev n f x = .int .u16 (a.toNat : Int)) (hy : ev n f y = .int ky b) (hb : 0 ≤ b) : (execOp (ev n f) ⟨some d, .binOp .shl t x y t', ty, pos, af, gd⟩).run P w = .ok (.value (.int .u16 ((UInt16.ofNat (a.toNat * 2 ^ (min b.toNat 16))).toNat : Int))) w := by
  have h := r_shl (P := P) (w := w) (d := d) (t := t) (t' := t') (ty := ty) (pos := pos) (af := af) (gd := gd) hx hy hb
  rw [wrap_u _ rfl] at h
  rw [h]
  simp only [IntKind.bits]
  have e1 : (a.toNat : Int) * 2 ^ (min b.toNat 16) = ((a.toNat * 2 ^ (min b.toNat 16) : Nat) : Int) := by simp
  have e2 : (UInt16.ofNat (a.toNat * 2 ^ (min b.toNat 16))).toNat = (a.toNat * 2 ^ (min b.toNat 16)) % 2 ^ 16 := rfl
  rw [e1, e2]
  rfl
theorem r_shr16 (a : UInt16) {b : Int} {ky : IntKind} (hx : ev n f x = .int .u16 (a.toNat : Int)) (hy : ev n f y = .int ky b) (hb : 0 ≤ b) : (execOp (ev n f) ⟨some d, .binOp .shr t x y t', ty, pos, af, gd⟩).run P w = .ok (.value (.int .u16 ((UInt16.ofNat (a.toNat / 2 ^ (min b.toNat 16))).toNat : Int))) w := by
  have h := r_shr (P := P) (w := w) (d := d) (t := t) (t' := t') (ty := ty) (pos := pos) (af := af) (gd := gd) hx hy hb
  rw [h]
  simp only [IntKind.bits]
  have h1 := a.toNat_lt
  have h2 : a.toNat / 2 ^ (min b.toNat 16) ≤ a.toNat := Nat.div_le_self _ _
  have h3 : (UInt16.ofNat (a.toNat / 2 ^ (min b.toNat 16))).toNat = a.toNat / 2 ^ (min b.toNat 16) := by
    rw [UInt16.toNat_ofNat_of_lt' (by simpa [UInt16.size] using (by omega : a.toNat / 2 ^ (min b.toNat 16) < 65536))]
  rw [h3, Int.fdiv_eq_ediv_of_nonneg _ (by exact Int.pow_nonneg (by decide))]
  congr 3
theorem r_cvI16 {ks : IntKind} {a : Int} {src dst : TypeId} {u : TypeDesc} (hu : P.underlying src = some u) (hd : P.underlying dst = some (.int .u16)) (hx : ev n f x = .int ks a) : (execOp (ev n f) ⟨some d, .convert src dst x, ty, pos, af, gd⟩).run P w = .ok (.value (.int .u16 ((UInt16.ofInt a).toNat : Int))) w := by
  have h := r_conv (P := P) (w := w) (d := d) (ty := ty) (pos := pos) (af := af) (gd := gd) hu hd hx
  rw [wrap_u _ rfl] at h
  rw [h]
  simp only [IntKind.bits]
  congr 3
  try (rw [UInt16.ofInt, UInt16.toNat_ofNat']
       have : (0 : Int) ≤ a % 2 ^ 16 := Int.emod_nonneg _ (by decide)
       have h2 : a % 2 ^ 16 < 2 ^ 16 := Int.emod_lt_of_pos _ (by decide)
       omega)
theorem r_cv8to16 (a : UInt8) {src dst : TypeId} {u : TypeDesc} (hu : P.underlying src = some u) (hd : P.underlying dst = some (.int .u16)) (hx : ev n f x = .int .u8 (a.toNat : Int)) : (execOp (ev n f) ⟨some d, .convert src dst x, ty, pos, af, gd⟩).run P w = .ok (.value (.int .u16 (a.toUInt16.toNat : Int))) w := by
  have h := r_conv (P := P) (w := w) (d := d) (ty := ty) (pos := pos) (af := af) (gd := gd) hu hd hx
  rw [wrap_u _ rfl] at h
  rw [h]
  simp only [IntKind.bits]
  have := a.toNat_lt
  congr 3
  try (simp <;> omega)
theorem r_cv32to16 (a : UInt32) {src dst : TypeId} {u : TypeDesc} (hu : P.underlying src = some u) (hd : P.underlying dst = some (.int .u16)) (hx : ev n f x = .int .u32 (a.toNat : Int)) : (execOp (ev n f) ⟨some d, .convert src dst x, ty, pos, af, gd⟩).run P w = .ok (.value (.int .u16 (a.toUInt16.toNat : Int))) w := by
  have h := r_conv (P := P) (w := w) (d := d) (ty := ty) (pos := pos) (af := af) (gd := gd) hu hd hx
  rw [wrap_u _ rfl] at h
  rw [h]
  simp only [IntKind.bits]
  have := a.toNat_lt
  congr 3
  try (simp <;> omega)
theorem r_cv64to16 (a : UInt64) {src dst : TypeId} {u : TypeDesc} (hu : P.underlying src = some u) (hd : P.underlying dst = some (.int .u16)) (hx : ev n f x = .int .u64 (a.toNat : Int)) : (execOp (ev n f) ⟨some d, .convert src dst x, ty, pos, af, gd⟩).run P w = .ok (.value (.int .u16 (a.toUInt16.toNat : Int))) w := by
  have h := r_conv (P := P) (w := w) (d := d) (ty := ty) (pos := pos) (af := af) (gd := gd) hu hd hx
  rw [wrap_u _ rfl] at h
  rw [h]
  simp only [IntKind.bits]
  have := a.toNat_lt
  congr 3
  try (simp <;> omega)
theorem r_cv16I (a : UInt16) {src dst : TypeId} {u : TypeDesc} (hu : P.underlying src = some u) (hd : P.underlying dst = some (.int .i64)) (hx : ev n f x = .int .u16 (a.toNat : Int)) : (execOp (ev n f) ⟨some d, .convert src dst x, ty, pos, af, gd⟩).run P w = .ok (.value (.int .i64 (a.toNat : Int))) w := by
  have h := r_conv (P := P) (w := w) (d := d) (ty := ty) (pos := pos) (af := af) (gd := gd) hu hd hx
  rw [wrap_i64] at h
  rw [h]
  have := a.toNat_lt
  rw [w64_id (by omega) (by omega)]
theorem r_add32 (a b : UInt32) (hx : ev n f x = .int .u32 (a.toNat : Int)) (hy : ev n f y = .int .u32 (b.toNat : Int)) : (execOp (ev n f) ⟨some d, .binOp .add t x y t', ty, pos, af, gd⟩).run P w = .ok (.value (.int .u32 ((a + b).toNat : Int))) w := by
  have h := r_addw (P := P) (w := w) (d := d) (t := t) (t' := t') (ty := ty) (pos := pos) (af := af) (gd := gd) hx hy
  rw [wrap_u _ rfl] at h
  rw [h, UInt32.toNat_add]
  have h1 := a.toNat_lt
  have h2 := b.toNat_lt
  simp only [IntKind.bits]
  congr 3
  try (first | omega | (push_cast; rfl) | (simp; omega))
theorem r_sub32 (a b : UInt32) (hx : ev n f x = .int .u32 (a.toNat : Int)) (hy : ev n f y = .int .u32 (b.toNat : Int)) : (execOp (ev n f) ⟨some d, .binOp .sub t x y t', ty, pos, af, gd⟩).run P w = .ok (.value (.int .u32 ((a - b).toNat : Int))) w := by
  have h := r_subw (P := P) (w := w) (d := d) (t := t) (t' := t') (ty := ty) (pos := pos) (af := af) (gd := gd) hx hy
  rw [wrap_u _ rfl] at h
  rw [h, UInt32.toNat_sub]
  have h1 := a.toNat_lt
  have h2 := b.toNat_lt
  simp only [IntKind.bits]
  congr 3
  try (first | omega | (push_cast; rfl) | (simp; omega))
theorem r_mul32 (a b : UInt32) (hx : ev n f x = .int .u32 (a.toNat : Int)) (hy : ev n f y = .int .u32 (b.toNat : Int)) : (execOp (ev n f) ⟨some d, .binOp .mul t x y t', ty, pos, af, gd⟩).run P w = .ok (.value (.int .u32 ((a * b).toNat : Int))) w := by
  have h := r_mulw (P := P) (w := w) (d := d) (t := t) (t' := t') (ty := ty) (pos := pos) (af := af) (gd := gd) hx hy
  rw [wrap_u _ rfl] at h
  rw [h, UInt32.toNat_mul]
  have h1 := a.toNat_lt
  have h2 := b.toNat_lt
  simp only [IntKind.bits]
  congr 3
  try (first | omega | (push_cast; rfl) | (simp; omega))
theorem r_and32 (a b : UInt32) (hx : ev n f x = .int .u32 (a.toNat : Int)) (hy : ev n f y = .int .u32 (b.toNat : Int)) : (execOp (ev n f) ⟨some d, .binOp .and t x y t', ty, pos, af, gd⟩).run P w = .ok (.value (.int .u32 ((a &&& b).toNat : Int))) w := by
  rw [UInt32.toNat_and]; exact r_andN (M := 4294967296) rfl rfl hx hy a.toNat_lt b.toNat_lt
theorem r_or32 (a b : UInt32) (hx : ev n f x = .int .u32 (a.toNat : Int)) (hy : ev n f y = .int .u32 (b.toNat : Int)) : (execOp (ev n f) ⟨some d, .binOp .or t x y t', ty, pos, af, gd⟩).run P w = .ok (.value (.int .u32 ((a ||| b).toNat : Int))) w := by
  rw [UInt32.toNat_or]; exact r_orN (M := 4294967296) rfl rfl hx hy a.toNat_lt b.toNat_lt
theorem r_xor32 (a b : UInt32) (hx : ev n f x = .int .u32 (a.toNat : Int)) (hy : ev n f y = .int .u32 (b.toNat : Int)) : (execOp (ev n f) ⟨some d, .binOp .xor t x y t', ty, pos, af, gd⟩).run P w = .ok (.value (.int .u32 ((a ^^^ b).toNat : Int))) w := by
  rw [UInt32.toNat_xor]; exact r_xorN (M := 4294967296) rfl rfl hx hy a.toNat_lt b.toNat_lt
theorem r_com32 (a : UInt32) (hx : ev n f x = .int .u32 (a.toNat : Int)) : (execOp (ev n f) ⟨some d, .unOp .xor t x, ty, pos, af, gd⟩).run P w = .ok (.value (.int .u32 ((~~~ a).toNat : Int))) w := by
  have h := r_comN (P := P) (w := w) (d := d) (t := t) (ty := ty) (pos := pos) (af := af) (gd := gd) (M := 4294967296) rfl rfl hx a.toNat_lt
  rw [h]
  congr 3
  try (first | rfl | simp [UInt32.toNat_not])
theorem r_quo32 (a b : UInt32) (hx : ev n f x = .int .u32 (a.toNat : Int)) (hy : ev n f y = .int .u32 (b.toNat : Int)) (hb : b ≠ 0) : (execOp (ev n f) ⟨some d, .binOp .quo t x y t', ty, pos, af, gd⟩).run P w = .ok (.value (.int .u32 ((a / b).toNat : Int))) w := by
  have h1 := a.toNat_lt
  have hb' : (b.toNat : Int) ≠ 0 := fun e => hb (UInt32.toNat_inj.1 (by simpa using e))
  have h := r_quow (P := P) (w := w) (d := d) (t := t) (t' := t') (ty := ty) (pos := pos) (af := af) (gd := gd) hx hy hb'
  have h3 : ((a.toNat : Int).tdiv (b.toNat : Int)) = ((a.toNat / b.toNat : Nat) : Int) := rfl
  have h2 : a.toNat / b.toNat ≤ a.toNat := Nat.div_le_self _ _
  rw [wrap_u _ rfl, h3] at h
  rw [h, UInt32.toNat_div]
  simp only [IntKind.bits]
  generalize a.toNat / b.toNat = q at h2 ⊢
  congr 3
  omega
theorem r_rem32 (a b : UInt32) (hx : ev n f x = .int .u32 (a.toNat : Int)) (hy : ev n f y = .int .u32 (b.toNat : Int)) (hb : b ≠ 0) : (execOp (ev n f) ⟨some d, .binOp .rem t x y t', ty, pos, af, gd⟩).run P w = .ok (.value (.int .u32 ((a % b).toNat : Int))) w := by
  have hb' : (b.toNat : Int) ≠ 0 := fun e => hb (UInt32.toNat_inj.1 (by simpa using e))
  have h := r_remw (P := P) (w := w) (d := d) (t := t) (t' := t') (ty := ty) (pos := pos) (af := af) (gd := gd) hx hy hb'
  rw [h, UInt32.toNat_mod]
  rfl
theorem r_shl32 (a : UInt32) {b : Int} {ky : IntKind} (hx : ev n f x = .int .u32 (a.toNat : Int)) (hy : ev n f y = .int ky b) (hb : 0 ≤ b) : (execOp (ev n f) ⟨some d, .binOp .shl t x y t', ty, pos, af, gd⟩).run P w = .ok (.value (.int .u32 ((UInt32.ofNat (a.toNat * 2 ^ (min b.toNat 32))).toNat : Int))) w := by
  have h := r_shl (P := P) (w := w) (d := d) (t := t) (t' := t') (ty := ty) (pos := pos) (af := af) (gd := gd) hx hy hb
  rw [wrap_u _ rfl] at h
  rw [h]
  simp only [IntKind.bits]
  have e1 : (a.toNat : Int) * 2 ^ (min b.toNat 32) = ((a.toNat * 2 ^ (min b.toNat 32) : Nat) : Int) := by simp
  have e2 : (UInt32.ofNat (a.toNat * 2 ^ (min b.toNat 32))).toNat = (a.toNat * 2 ^ (min b.toNat 32)) % 2 ^ 32 := rfl
  rw [e1, e2]
  rfl
theorem r_shr32 (a : UInt32) {b : Int} {ky : IntKind} (hx : ev n f x = .int .u32 (a.toNat : Int)) (hy : ev n f y = .int ky b) (hb : 0 ≤ b) : (execOp (ev n f) ⟨some d, .binOp .shr t x y t', ty, pos, af, gd⟩).run P w = .ok (.value (.int .u32 ((UInt32.ofNat (a.toNat / 2 ^ (min b.toNat 32))).toNat : Int))) w := by
  have h := r_shr (P := P) (w := w) (d := d) (t := t) (t' := t') (ty := ty) (pos := pos) (af := af) (gd := gd) hx hy hb
  rw [h]
  simp only [IntKind.bits]
  have h1 := a.toNat_lt
  have h2 : a.toNat / 2 ^ (min b.toNat 32) ≤ a.toNat := Nat.div_le_self _ _
  have h3 : (UInt32.ofNat (a.toNat / 2 ^ (min b.toNat 32))).toNat = a.toNat / 2 ^ (min b.toNat 32) := by
    rw [UInt32.toNat_ofNat_of_lt' (by simpa [UInt32.size] using (by omega : a.toNat / 2 ^ (min b.toNat 32) < 4294967296))]
  rw [h3, Int.fdiv_eq_ediv_of_nonneg _ (by exact Int.pow_nonneg (by decide))]
  congr 3
theorem r_cvI32 {ks : IntKind} {a : Int} {src dst : TypeId} {u : TypeDesc} (hu : P.underlying src = some u) (hd : P.underlying dst = some (.int .u32)) (hx : ev n f x = .int ks a) : (execOp (ev n f) ⟨some d, .convert src dst x, ty, pos, af, gd⟩).run P w = .ok (.value (.int .u32 ((UInt32.ofInt a).toNat : Int))) w := by
  have h := r_conv (P := P) (w := w) (d := d) (ty := ty) (pos := pos) (af := af) (gd := gd) hu hd hx
  rw [wrap_u _ rfl] at h
  rw [h]
  simp only [IntKind.bits]
  congr 3
  try (rw [UInt32.ofInt, UInt32.toNat_ofNat']
       have : (0 : Int) ≤ a % 2 ^ 32 := Int.emod_nonneg _ (by decide)
       have h2 : a % 2 ^ 32 < 2 ^ 32 := Int.emod_lt_of_pos _ (by decide)
       omega)
theorem r_cv8to32 (a : UInt8) {src dst : TypeId} {u : TypeDesc} (hu : P.underlying src = some u) (hd : P.underlying dst = some (.int .u32)) (hx : ev n f x = .int .u8 (a.toNat : Int)) : (execOp (ev n f) ⟨some d, .convert src dst x, ty, pos, af, gd⟩).run P w = .ok (.value (.int .u32 (a.toUInt32.toNat : Int))) w := by
  have h := r_conv (P := P) (w := w) (d := d) (ty := ty) (pos := pos) (af := af) (gd := gd) hu hd hx
  rw [wrap_u _ rfl] at h
  rw [h]
  simp only [IntKind.bits]
  have := a.toNat_lt
  congr 3
  try (simp <;> omega)
theorem r_cv16to32 (a : UInt16) {src dst : TypeId} {u : TypeDesc} (hu : P.underlying src = some u) (hd : P.underlying dst = some (.int .u32)) (hx : ev n f x = .int .u16 (a.toNat : Int)) : (execOp (ev n f) ⟨some d, .convert src dst x, ty, pos, af, gd⟩).run P w = .ok (.value (.int .u32 (a.toUInt32.toNat : Int))) w := by
  have h := r_conv (P := P) (w := w) (d := d) (ty := ty) (pos := pos) (af := af) (gd := gd) hu hd hx
  rw [wrap_u _ rfl] at h
  rw [h]
  simp only [IntKind.bits]
  have := a.toNat_lt
  congr 3
  try (simp <;> omega)
theorem r_cv64to32 (a : UInt64) {src dst : TypeId} {u : TypeDesc} (hu : P.underlying src = some u) (hd : P.underlying dst = some (.int .u32)) (hx : ev n f x = .int .u64 (a.toNat : Int)) : (execOp (ev n f) ⟨some d, .convert src dst x, ty, pos, af, gd⟩).run P w = .ok (.value (.int .u32 (a.toUInt32.toNat : Int))) w := by
  have h := r_conv (P := P) (w := w) (d := d) (ty := ty) (pos := pos) (af := af) (gd := gd) hu hd hx
  rw [wrap_u _ rfl] at h
  rw [h]
  simp only [IntKind.bits]
  have := a.toNat_lt
  congr 3
  try (simp <;> omega)
theorem r_cv32I (a : UInt32) {src dst : TypeId} {u : TypeDesc} (hu : P.underlying src = some u) (hd : P.underlying dst = some (.int .i64)) (hx : ev n f x = .int .u32 (a.toNat : Int)) : (execOp (ev n f) ⟨some d, .convert src dst x, ty, pos, af, gd⟩).run P w = .ok (.value (.int .i64 (a.toNat : Int))) w := by
  have h := r_conv (P := P) (w := w) (d := d) (ty := ty) (pos := pos) (af := af) (gd := gd) hu hd hx
  rw [wrap_i64] at h
  rw [h]
  have := a.toNat_lt
  rw [w64_id (by omega) (by omega)]
theorem r_add64 (a b : UInt64) (hx : ev n f x = .int .u64 (a.toNat : Int)) (hy : ev n f y = .int .u64 (b.toNat : Int)) : (execOp (ev n f) ⟨some d, .binOp .add t x y t', ty, pos, af, gd⟩).run P w = .ok (.value (.int .u64 ((a + b).toNat : Int))) w := by
  have h := r_addw (P := P) (w := w) (d := d) (t := t) (t' := t') (ty := ty) (pos := pos) (af := af) (gd := gd) hx hy
  rw [wrap_u _ rfl] at h
  rw [h, UInt64.toNat_add]
  have h1 := a.toNat_lt
  have h2 := b.toNat_lt
  simp only [IntKind.bits]
  congr 3
  try (first | omega | (push_cast; rfl) | (simp; omega))
theorem r_sub64 (a b : UInt64) (hx : ev n f x = .int .u64 (a.toNat : Int)) (hy : ev n f y = .int .u64 (b.toNat : Int)) : (execOp (ev n f) ⟨some d, .binOp .sub t x y t', ty, pos, af, gd⟩).run P w = .ok (.value (.int .u64 ((a - b).toNat : Int))) w := by
  have h := r_subw (P := P) (w := w) (d := d) (t := t) (t' := t') (ty := ty) (pos := pos) (af := af) (gd := gd) hx hy
  rw [wrap_u _ rfl] at h
  rw [h, UInt64.toNat_sub]
  have h1 := a.toNat_lt
  have h2 := b.toNat_lt
  simp only [IntKind.bits]
  congr 3
  try (first | omega | (push_cast; rfl) | (simp; omega))
theorem r_mul64 (a b : UInt64) (hx : ev n f x = .int .u64 (a.toNat : Int)) (hy : ev n f y = .int .u64 (b.toNat : Int)) : (execOp (ev n f) ⟨some d, .binOp .mul t x y t', ty, pos, af, gd⟩).run P w = .ok (.value (.int .u64 ((a * b).toNat : Int))) w := by
  have h := r_mulw (P := P) (w := w) (d := d) (t := t) (t' := t') (ty := ty) (pos := pos) (af := af) (gd := gd) hx hy
  rw [wrap_u _ rfl] at h
  rw [h, UInt64.toNat_mul]
  have h1 := a.toNat_lt
  have h2 := b.toNat_lt
  simp only [IntKind.bits]
  congr 3
  try (first | omega | (push_cast; rfl) | (simp; omega))
theorem r_and64 (a b : UInt64) (hx : ev n f x = .int .u64 (a.toNat : Int)) (hy : ev n f y = .int .u64 (b.toNat : Int)) : (execOp (ev n f) ⟨some d, .binOp .and t x y t', ty, pos, af, gd⟩).run P w = .ok (.value (.int .u64 ((a &&& b).toNat : Int))) w := by
  rw [UInt64.toNat_and]; exact r_andN (M := 18446744073709551616) rfl rfl hx hy a.toNat_lt b.toNat_lt
theorem r_or64 (a b : UInt64) (hx : ev n f x = .int .u64 (a.toNat : Int)) (hy : ev n f y = .int .u64 (b.toNat : Int)) : (execOp (ev n f) ⟨some d, .binOp .or t x y t', ty, pos, af, gd⟩).run P w = .ok (.value (.int .u64 ((a ||| b).toNat : Int))) w := by
  rw [UInt64.toNat_or]; exact r_orN (M := 18446744073709551616) rfl rfl hx hy a.toNat_lt b.toNat_lt
theorem r_xor64 (a b : UInt64) (hx : ev n f x = .int .u64 (a.toNat : Int)) (hy : ev n f y = .int .u64 (b.toNat : Int)) : (execOp (ev n f) ⟨some d, .binOp .xor t x y t', ty, pos, af, gd⟩).run P w = .ok (.value (.int .u64 ((a ^^^ b).toNat : Int))) w := by
  rw [UInt64.toNat_xor]; exact r_xorN (M := 18446744073709551616) rfl rfl hx hy a.toNat_lt b.toNat_lt
theorem r_com64 (a : UInt64) (hx : ev n f x = .int .u64 (a.toNat : Int)) : (execOp (ev n f) ⟨some d, .unOp .xor t x, ty, pos, af, gd⟩).run P w = .ok (.value (.int .u64 ((~~~ a).toNat : Int))) w := by
  have h := r_comN (P := P) (w := w) (d := d) (t := t) (ty := ty) (pos := pos) (af := af) (gd := gd) (M := 18446744073709551616) rfl rfl hx a.toNat_lt
  rw [h]
  congr 3
  try (first | rfl | simp [UInt64.toNat_not])
theorem r_quo64 (a b : UInt64) (hx : ev n f x = .int .u64 (a.toNat : Int)) (hy : ev n f y = .int .u64 (b.toNat : Int)) (hb : b ≠ 0) : (execOp (ev n f) ⟨some d, .binOp .quo t x y t', ty, pos, af, gd⟩).run P w = .ok (.value (.int .u64 ((a / b).toNat : Int))) w := by
  have h1 := a.toNat_lt
  have hb' : (b.toNat : Int) ≠ 0 := fun e => hb (UInt64.toNat_inj.1 (by simpa using e))
  have h := r_quow (P := P) (w := w) (d := d) (t := t) (t' := t') (ty := ty) (pos := pos) (af := af) (gd := gd) hx hy hb'
  have h3 : ((a.toNat : Int).tdiv (b.toNat : Int)) = ((a.toNat / b.toNat : Nat) : Int) := rfl
  have h2 : a.toNat / b.toNat ≤ a.toNat := Nat.div_le_self _ _
  rw [wrap_u _ rfl, h3] at h
  rw [h, UInt64.toNat_div]
  simp only [IntKind.bits]
  generalize a.toNat / b.toNat = q at h2 ⊢
  congr 3
  omega
theorem r_rem64 (a b : UInt64) (hx : ev n f x = .int .u64 (a.toNat : Int)) (hy : ev n f y = .int .u64 (b.toNat : Int)) (hb : b ≠ 0) : (execOp (ev n f) ⟨some d, .binOp .rem t x y t', ty, pos, af, gd⟩).run P w = .ok (.value (.int .u64 ((a % b).toNat : Int))) w := by
  have hb' : (b.toNat : Int) ≠ 0 := fun e => hb (UInt64.toNat_inj.1 (by simpa using e))
  have h := r_remw (P := P) (w := w) (d := d) (t := t) (t' := t') (ty := ty) (pos := pos) (af := af) (gd := gd) hx hy hb'
  rw [h, UInt64.toNat_mod]
  rfl
theorem r_shl64 (a : UInt64) {b : Int} {ky : IntKind} (hx : ev n f x = .int .u64 (a.toNat : Int)) (hy : ev n f y = .int ky b) (hb : 0 ≤ b) : (execOp (ev n f) ⟨some d, .binOp .shl t x y t', ty, pos, af, gd⟩).run P w = .ok (.value (.int .u64 ((UInt64.ofNat (a.toNat * 2 ^ (min b.toNat 64))).toNat : Int))) w := by
  have h := r_shl (P := P) (w := w) (d := d) (t := t) (t' := t') (ty := ty) (pos := pos) (af := af) (gd := gd) hx hy hb
  rw [wrap_u _ rfl] at h
  rw [h]
  simp only [IntKind.bits]
  have e1 : (a.toNat : Int) * 2 ^ (min b.toNat 64) = ((a.toNat * 2 ^ (min b.toNat 64) : Nat) : Int) := by simp
  have e2 : (UInt64.ofNat (a.toNat * 2 ^ (min b.toNat 64))).toNat = (a.toNat * 2 ^ (min b.toNat 64)) % 2 ^ 64 := rfl
  rw [e1, e2]
  rfl
theorem r_shr64 (a : UInt64) {b : Int} {ky : IntKind} (hx : ev n f x = .int .u64 (a.toNat : Int)) (hy : ev n f y = .int ky b) (hb : 0 ≤ b) : (execOp (ev n f) ⟨some d, .binOp .shr t x y t', ty, pos, af, gd⟩).run P w = .ok (.value (.int .u64 ((UInt64.ofNat (a.toNat / 2 ^ (min b.toNat 64))).toNat : Int))) w := by
  have h := r_shr (P := P) (w := w) (d := d) (t := t) (t' := t') (ty := ty) (pos := pos) (af := af) (gd := gd) hx hy hb
  rw [h]
  simp only [IntKind.bits]
  have h1 := a.toNat_lt
  have h2 : a.toNat / 2 ^ (min b.toNat 64) ≤ a.toNat := Nat.div_le_self _ _
  have h3 : (UInt64.ofNat (a.toNat / 2 ^ (min b.toNat 64))).toNat = a.toNat / 2 ^ (min b.toNat 64) := by
    rw [UInt64.toNat_ofNat_of_lt' (by simpa [UInt64.size] using (by omega : a.toNat / 2 ^ (min b.toNat 64) < 18446744073709551616))]
  rw [h3, Int.fdiv_eq_ediv_of_nonneg _ (by exact Int.pow_nonneg (by decide))]
  congr 3
theorem r_cvI64 {ks : IntKind} {a : Int} {src dst : TypeId} {u : TypeDesc} (hu : P.underlying src = some u) (hd : P.underlying dst = some (.int .u64)) (hx : ev n f x = .int ks a) : (execOp (ev n f) ⟨some d, .convert src dst x, ty, pos, af, gd⟩).run P w = .ok (.value (.int .u64 ((UInt64.ofInt a).toNat : Int))) w := by
  have h := r_conv (P := P) (w := w) (d := d) (ty := ty) (pos := pos) (af := af) (gd := gd) hu hd hx
  rw [wrap_u _ rfl] at h
  rw [h]
  simp only [IntKind.bits]
  congr 3
  try (rw [UInt64.ofInt, UInt64.toNat_ofNat']
       have : (0 : Int) ≤ a % 2 ^ 64 := Int.emod_nonneg _ (by decide)
       have h2 : a % 2 ^ 64 < 2 ^ 64 := Int.emod_lt_of_pos _ (by decide)
       omega)
theorem r_cv8to64 (a : UInt8) {src dst : TypeId} {u : TypeDesc} (hu : P.underlying src = some u) (hd : P.underlying dst = some (.int .u64)) (hx : ev n f x = .int .u8 (a.toNat : Int)) : (execOp (ev n f) ⟨some d, .convert src dst x, ty, pos, af, gd⟩).run P w = .ok (.value (.int .u64 (a.toUInt64.toNat : Int))) w := by
  have h := r_conv (P := P) (w := w) (d := d) (ty := ty) (pos := pos) (af := af) (gd := gd) hu hd hx
  rw [wrap_u _ rfl] at h
  rw [h]
  simp only [IntKind.bits]
  have := a.toNat_lt
  congr 3
  try (simp <;> omega)
theorem r_cv16to64 (a : UInt16) {src dst : TypeId} {u : TypeDesc} (hu : P.underlying src = some u) (hd : P.underlying dst = some (.int .u64)) (hx : ev n f x = .int .u16 (a.toNat : Int)) : (execOp (ev n f) ⟨some d, .convert src dst x, ty, pos, af, gd⟩).run P w = .ok (.value (.int .u64 (a.toUInt64.toNat : Int))) w := by
  have h := r_conv (P := P) (w := w) (d := d) (ty := ty) (pos := pos) (af := af) (gd := gd) hu hd hx
  rw [wrap_u _ rfl] at h
  rw [h]
  simp only [IntKind.bits]
  have := a.toNat_lt
  congr 3
  try (simp <;> omega)
theorem r_cv32to64 (a : UInt32) {src dst : TypeId} {u : TypeDesc} (hu : P.underlying src = some u) (hd : P.underlying dst = some (.int .u64)) (hx : ev n f x = .int .u32 (a.toNat : Int)) : (execOp (ev n f) ⟨some d, .convert src dst x, ty, pos, af, gd⟩).run P w = .ok (.value (.int .u64 (a.toUInt64.toNat : Int))) w := by
  have h := r_conv (P := P) (w := w) (d := d) (ty := ty) (pos := pos) (af := af) (gd := gd) hu hd hx
  rw [wrap_u _ rfl] at h
  rw [h]
  simp only [IntKind.bits]
  have := a.toNat_lt
  congr 3
  try (simp <;> omega)
theorem r_cv64I (a : UInt64) {src dst : TypeId} {u : TypeDesc} (hu : P.underlying src = some u) (hd : P.underlying dst = some (.int .i64)) (hx : ev n f x = .int .u64 (a.toNat : Int)) : (execOp (ev n f) ⟨some d, .convert src dst x, ty, pos, af, gd⟩).run P w = .ok (.value (.int .i64 (w64 (a.toNat : Int)))) w := by
  have h := r_conv (P := P) (w := w) (d := d) (ty := ty) (pos := pos) (af := af) (gd := gd) hu hd hx
  rw [wrap_i64] at h
  rw [h]
theorem r_cvII {a : Int} {src dst : TypeId} {u : TypeDesc} (hu : P.underlying src = some u) (hd : P.underlying dst = some (.int .i64)) (hx : ev n f x = .int .i64 a) : (execOp (ev n f) ⟨some d, .convert src dst x, ty, pos, af, gd⟩).run P w = .ok (.value (.int .i64 (w64 a))) w := by
  rw [← wrap_i64]; exact r_conv hu hd hx
theorem r_slenL {s : List UInt8} (ht : P.underlying t = some .string) (hx : ev n f x = .string (strOf s)) : (execOp (ev n f) ⟨some d, .call { callee := .builtin .len, args := #[x], argTypes := #[t] }, ty, pos, af, gd⟩).run P w = .ok (.value (.int .i64 (s.length : Int))) w := r_slen ht hx
/-! ### 3. Rows: what comes out has a length with a name -/
theorem a_cut {α : Type} {e : α → List Value} {xs ys : List α} {size bytes : Nat} {a : Option Addr} {m c : Nat} {T : TypeId} {zv : Value} {lo hi : Option Operand} {l h : Int} {q : Nat} (ht : P.underlying t = some (.slice T)) (hI : TI P T zv size bytes) (hx : ev n f x = .slice a m c)
    (hb : (Instr.sliceBounds true m c (lo.map (ev n f)) (hi.map (ev n f)) none).run P w = .ok (l.toNat, h.toNat, q) w) (hq : q = c) (hR : Rd w L a (fl e xs)) (he : ∀ x, (e x).length = size) (hm : xs.length = m) (hc : m ≤ c) (hy : cutO xs l h = some ys)
    (k : ∀ a' m' c', ys.length = m' → m' ≤ c' → Rd w L a' (fl e ys) → wpList P ops Q rest (act n (upd f d (.slice a' m' c'))) w) :
    wpList P ops Q (⟨some d, .slice t x lo hi none, ty, pos, af, none⟩ :: rest) (act n f) w := by
  obtain ⟨h0, h1, h2, rfl⟩ := cutE hy
  subst hq
  refine s_cut (mx := none) ht hI hx hb ?_
  intro a' ha
  have e1 : (h - l).toNat = h.toNat - l.toNat := by omega
  refine k a' (h.toNat - l.toNat) (q - l.toNat) (by rw [List.length_take, List.length_drop]; omega) (by omega) ?_
  rw [e1]
  exact hR.cutE he (by omega) (by omega) (by intro hql; omega) ha
theorem bnd_h {m c : Nat} {kd : IntKind} {b : Bool} {h : Int} (h0 : 0 ≤ (0 : Int)) (h1 : 0 ≤ h) (h2 : h ≤ m) (hc : m ≤ c) : (Instr.sliceBounds b m c none (some (.int kd h)) none).run P w = .ok ((0 : Int).toNat, h.toNat, c) w := sb_h h1 (by omega)
theorem bnd_l {m c : Nat} {kd : IntKind} {b : Bool} {l : Int} (h0 : 0 ≤ l) (h1 : l ≤ m) (h2 : (m : Int) ≤ m) (hc : m ≤ c) : (Instr.sliceBounds b m c (some (.int kd l)) none none).run P w = .ok (l.toNat, (m : Int).toNat, c) w := sb_l h0 h1
theorem bnd_lh {m c : Nat} {kd kd' : IntKind} {b : Bool} {l h : Int} (h0 : 0 ≤ l) (h1 : l ≤ h) (h2 : h ≤ m) (hc : m ≤ c) : (Instr.sliceBounds b m c (some (.int kd l)) (some (.int kd' h)) none).run P w = .ok (l.toNat, h.toNat, c) w := sb_lh h0 h1 (by omega)
theorem bnd_ {m c : Nat} {b : Bool} (h0 : 0 ≤ (0 : Int)) (h1 : (0 : Int) ≤ m) (h2 : (m : Int) ≤ m) (hc : m ≤ c) : (Instr.sliceBounds b m c none none none).run P w = .ok ((0 : Int).toNat, (m : Int).toNat, c) w := sb_all
theorem cut_bnd {α : Type} {xs ys : List α} {l h : Int} {m : Nat} (e : cutO xs l h = some ys) (hm : xs.length = m) : 0 ≤ l ∧ l ≤ h ∧ h ≤ (m : Int) := by
  obtain ⟨h0, h1, h2, _⟩ := cutE e
  exact ⟨h0, h1, by omega⟩
/-- An element to be read. -/
theorem a_idx {α : Type} {e : α → List Value} {xs : List α} {v : α} {size bytes : Nat} {a : Option Addr} {m c : Nat} {kd : IntKind} {i : Int} {T : TypeId} {zv : Value} (ht : P.underlying t = some (.slice T)) (hI : TI P T zv size bytes) (hx : ev n f x = .slice a m c) (hy : ev n f y = .int kd i)
    (hR : Cs w a (fl e xs)) (he : ∀ x, (e x).length = size) (hs : 0 < size) (hm : xs.length = m) (hv : ix xs i = some v)
    (k : ∀ p : Addr, (∀ j u, (e v)[j]? = some u → w.cell? (p.add j) = some u) → wpList P ops Q rest (act n (upd f d (.pointer (some p)))) w) :
    wpList P ops Q (⟨some d, .indexAddr t x y, ty, pos, af, none⟩ :: rest) (act n f) w := by
  obtain ⟨h0, h1, h2⟩ := ixE hv
  exact s_idxE ht hI hx hy h0 (by omega) hR he hs h1 k
theorem ix_known {α : Type} {e : α → List Value} {xs : List α} {v : α} {size : Nat} {a : Option Addr} {i : Int} (hR : Cs w a (fl e xs)) (he : ∀ x, (e x).length = size) (hs : 0 < size) (hv : ix xs i = some v) :
    ∃ ad, a = some ad ∧ ∀ w', Cs w' a (fl e xs) → ∀ j u, (e v)[j]? = some u → w'.cell? ((ad.add (i.toNat * size)).add j) = some u := idx_getE hR he hs (ixE hv).2.1
theorem ra_idx {α : Type} {xs : List α} {v : α} {size bytes : Nat} {ad : Addr} {m c : Nat} {kd : IntKind} {i : Int} {T : TypeId} {zv : Value} (ht : P.underlying t = some (.slice T)) (hI : TI P T zv size bytes) (hx : ev n f x = .slice (some ad) m c) (hy : ev n f y = .int kd i) (hm : xs.length = m) (hv : ix xs i = some v) :
    (execOp (ev n f) ⟨some d, .indexAddr t x y, ty, pos, af, gd⟩).run P w = .ok (.value (.pointer (some (ad.add (i.toNat * size))))) w := by
  obtain ⟨h0, h1, h2⟩ := ixE hv
  exact r_idx ht hI hx hy h0 (by omega)
theorem r_idxS {s : List UInt8} {kd : IntKind} {i : Int} {b : UInt8} (ht : P.underlying t = some .string) (hx : ev n f x = .string (strOf s)) (hy : ev n f y = .int kd i) (hv : ix s i = some b) :
    (execOp (ev n f) ⟨some d, .index t x y, ty, pos, af, gd⟩).run P w = .ok (.value (.int .u8 (b.toNat : Int))) w := by
  obtain ⟨h0, h1, h2⟩ := ixE hv
  have hb : (strOf s).data.toList[i.toNat]? = some b := h1
  obtain ⟨hl, he⟩ := List.getElem?_eq_some_iff.1 hb
  have h3 : (strOf s)[i.toNat]? = some b := by
    rw [getElem?_pos (strOf s) i.toNat (by simpa using hl)]
    simp at he
    rw [← he]
    rfl
  simp [execOp, hx, hy, Instr.index, asIntOf, run_underlying ht, h0, h3]
end
section
variable {P : Program} {ops : Array Oper} {Q : Exit → Act → World → Prop} {rest : List Oper} {n : Nat} {f : Fr} {w : World} {L : Hp} {d : Tmp} {ty t t' : TypeId} {pos : String} {af : Array Edge} {x y z : Operand} {gd : Option (Nat × Bool)}
theorem r_lenL {α : Type} {xs : List α} {a : Option Addr} {m c : Nat} {e : TypeId} (ht : P.underlying t = some (.slice e)) (hx : ev n f x = .slice a m c) (hm : xs.length = m) : (execOp (ev n f) ⟨some d, .call { callee := .builtin .len, args := #[x], argTypes := #[t] }, ty, pos, af, gd⟩).run P w = .ok (.value (.int .i64 (xs.length : Int))) w := by
  rw [hm]; exact r_len ht hx
theorem r_b2sL {src dst e : TypeId} {a : Option Addr} {m c : Nat} {bs : List UInt8} (hs : P.underlying src = some (.slice e)) (he : P.underlying e = some (.int .u8)) (hd : P.underlying dst = some .string) (hx : ev n f x = .slice a m c) (hm : bs.length = m) (hR : Cs w a (fl eB bs)) :
    (execOp (ev n f) ⟨some d, .convert src dst x, ty, pos, af, gd⟩).run P w = .ok (.value (.string (strOf bs))) w := by
  subst hm; exact r_b2s hs he hd hx hR
theorem r_makeFunc {fn : Fn} {first captured : List Operand} {fv cv : List Value} (hf : first.map (ev n f) = fv) (hc : captured.map (ev n f) = cv) :
    (execOp (ev n f) ⟨some d, .makeFunc fn first.toArray captured.toArray, ty, pos, af, gd⟩).run P w = .ok (.value (.func fn fv.toArray cv.toArray)) w := by
  subst hf; subst hc; simp [execOp, Instr.makeFunc]
theorem r_stEq {α : Type} [DecidableEq α] {u v : α} {xs ys : Array Value} (hg : P.eqGuardType P.depth t = false) (he : ∀ D, (Op.equalIn (D + 9) t (.agg xs) (.agg ys)).run P w = .ok (decide (u = v)) w) (hx : ev n f x = .agg xs) (hy : ev n f y = .agg ys) :
    (execOp (ev n f) ⟨some d, .binOp .eql t x y t', ty, pos, af, gd⟩).run P w = .ok (.value (.bool (decide (u = v)))) w := by
  have h : (Op.equal t (.agg xs) (.agg ys)).run P w = .ok (decide (u = v)) w := he 9991
  simp [execOp, hx, hy, eqGuard, binOp, h, hg]
theorem r_stNe {α : Type} [DecidableEq α] {u v : α} {xs ys : Array Value} (hg : P.eqGuardType P.depth t = false) (he : ∀ D, (Op.equalIn (D + 9) t (.agg xs) (.agg ys)).run P w = .ok (decide (u = v)) w) (hx : ev n f x = .agg xs) (hy : ev n f y = .agg ys) :
    (execOp (ev n f) ⟨some d, .binOp .neq t x y t', ty, pos, af, gd⟩).run P w = .ok (.value (.bool (!(decide (u = v))))) w := by
  have h : (Op.equal t (.agg xs) (.agg ys)).run P w = .ok (decide (u = v)) w := he 9991
  simp [execOp, hx, hy, eqGuard, binOp, h, hg]
end
/-! '==' of structs, field by field -/
section
variable {P : Program} {d : Nat} {xs ys : Array Value} {f : Field} {fs : List Field} {a b : Value} {r s : Bool} {w : World}
theorem eqf_cons (hn : (f.name == "_") = false) (ha : (part f.type xs f.offset).run P w = .ok a w) (hb : (part f.type ys f.offset).run P w = .ok b w) (he : (Op.equalIn d f.type a b).run P w = .ok r w) (hr : (Op.eqFields d xs ys fs).run P w = .ok s w) : (Op.eqFields d xs ys (f :: fs)).run P w = .ok (r && s) w := by
  have hn' : f.name ≠ "_" := by simpa using hn
  rw [Op.eqFields]
  simp only [if_pos hn', Sem.run_bind, ha, hb, he, Result.andThen_ok]
  cases r
  · simp
  · simpa using hr
theorem eqf_nil : (Op.eqFields d xs ys []).run P w = .ok true w := by simp [Op.eqFields]
theorem eqA_of {t : TypeId} {fs : Array Field} (hu : P.underlying t = some (.struct fs)) (hp : P.stoodInHeld t = false) (h : (Op.eqFields d xs ys fs.toList).run P w = .ok r w) : (Op.equalIn (d + 1) t (.agg xs) (.agg ys)).run P w = .ok r w := by
  have hf : P.fieldsOf t = fs := by simp [Program.fieldsOf, hu]
  rw [run_equalIn_struct (P := P) w d t xs ys (by rw [hf]; exact hu) hp, hf]
  exact h
theorem eqi {t : TypeId} {k k0 : IntKind} {a b : Int} (ht : P.underlying t = some (.int k0)) : (Op.equalIn (d + 1) t (.int k a) (.int k b)).run P w = .ok (decide (a = b)) w := by
  simp [Op.equalIn, run_underlying ht]; rfl
theorem equ {t : TypeId} {k k0 : IntKind} {a b : Nat} (ht : P.underlying t = some (.int k0)) : (Op.equalIn (d + 1) t (.int k (a : Int)) (.int k (b : Int))).run P w = .ok (decide (a = b)) w := by
  rw [eqi ht]; congr 1; rw [Bool.eq_iff_iff]; simp; omega
theorem eqb {t : TypeId} {a b : Bool} (ht : P.underlying t = some .bool) : (Op.equalIn (d + 1) t (.bool a) (.bool b)).run P w = .ok (decide (a = b)) w := by
  simp [Op.equalIn, run_underlying ht]; rfl
theorem eqs {t : TypeId} {a b : List UInt8} (ht : P.underlying t = some .string) : (Op.equalIn (d + 1) t (.string (strOf a)) (.string (strOf b))).run P w = .ok (decide (a = b)) w := by
  have : (strOf a == strOf b) = decide (a = b) := by
    rw [Bool.eq_iff_iff]
    simp only [decide_eq_true_eq]
    rw [← strOf_inj]
    constructor
    · intro h
      have := beq_toListBytes (strOf a) (strOf b)
      rw [h] at this
      have h2 := eq_of_beq this.symm
      rw [ByteArray.toList_eq, ByteArray.toList_eq] at h2
      exact bytes_ext (by simpa using h2)
    · intro h; rw [h, beq_toListBytes]; simp
  simp [Op.equalIn, run_underlying ht, this]
theorem part1 {t : TypeId} {u : TypeDesc} {v : Value} {o : Nat} (ht : P.underlying t = some u) (hu : aggB u = false) (hv : xs[o]? = some v) : (part t xs o).run P w = .ok v w := by
  unfold part
  simp [run_isAgg ht, hu, hv]
end
/-! ### 4. Rows of one's own -/
section
variable {P : Program} {ops : Array Oper} {Q : Exit → Act → World → Prop} {rest : List Oper} {n : Nat} {f : Fr} {w : World} {L : Hp} {d : Tmp} {ty t t' : TypeId} {pos : String} {af : Array Edge} {x y z : Operand}
theorem fl_one' {α : Type} {e : α → List Value} (h1 : ∀ x, ∀ u ∈ e x, u.oneCell' = true) (xs : List α) : ∀ u ∈ fl e xs, u.oneCell' = true := by
  intro u hu
  simp only [fl, List.mem_flatten, List.mem_map] at hu
  obtain ⟨l, ⟨x, _, rfl⟩, hl⟩ := hu
  exact h1 x u hl
theorem a_append {α : Type} {e : α → List Value} {xs ys zs : List α} {T : TypeId} {size bytes : Nat} {zv : Value} {a A : Option Addr} {m cap k c : Nat} {S : Hp} (ht : P.underlying t = some (.slice T)) (hI : TI P T zv size bytes) (hzs : zv.cells.size = size) (hsz : 0 < size) (hby : 0 < bytes)
    (hx : ev n f x = .slice a m cap) (hy : ev n f y = .slice A k c) (hS : OwnSl T size a m cap (fl e xs) S) (hO : Own w (S ++ L)) (hsrc : Cs w A (fl e ys)) (he : ∀ x, (e x).length = size) (h1 : ∀ x, ∀ u ∈ e x, u.oneCell' = true) (hm : xs.length = m) (hk : ys.length = k) (hz : appO bytes xs ys = some zs)
    (K : ∀ a' m' cap' S' w', zs.length = m' → OwnSl T size a' m' cap' (fl e zs) S' → Own w' (S' ++ L) → Ext w (S ++ L) w' (S' ++ L) → wpList P ops Q rest (act n (upd f d (.slice a' m' cap'))) w') :
    wpList P ops Q (⟨some d, .call { callee := .builtin .append, args := #[x, y], argTypes := #[t, t] }, ty, pos, af, none⟩ :: rest) (act n f) w := by
  obtain ⟨hb, rfl⟩ := appE hz
  refine s_append (mk := m + k) ht hI hzs hsz hby hx hy hS hO hsrc (by rw [fl_len he, hk]) (fl_one' h1 ys) rfl (by rw [← hm, ← hk]; exact hb) ?_
  intro a' cap' S' w' h2 h3 h4
  refine K a' (m + k) cap' S' w' (by rw [List.length_append, hm, hk]) (by rw [fl_app]; exact h2) h3 h4
theorem rep_fl {α : Type} {e : α → List Value} {z : α} {zv : Value} (h : e z = [zv]) : ∀ k : Nat, List.replicate k zv = fl e (List.replicate k z)
  | 0 => rfl
  | k + 1 => by rw [List.replicate_succ, List.replicate_succ, fl_cons, h, rep_fl h k]; rfl
theorem zc_fl {α : Type} {e : α → List Value} {z : α} {zv : Value} (hz : zv.cells = #[zv]) (h : e z = [zv]) (k : Nat) : (Builtin.zeroCells zv.cells k).toList = fl e (List.replicate k z) := by
  rw [zeroCells_one hz, rep_fl h]
theorem a_appendZ {α : Type} {e : α → List Value} {xs zs : List α} {z : α} {T ti : TypeId} {ki kx : IntKind} {size bytes : Nat} {zv : Value} {a : Option Addr} {m cap : Nat} {i : Int} {S : Hp} {ys : List α} (ht : P.underlying t = some (.slice T)) (hti : P.underlying ti = some (.int ki)) (hI : TI P T zv size bytes) (hzs : zv.cells.size = size) (hsz : 0 < size) (hby : 0 < bytes)
    (hx : ev n f x = .slice a m cap) (hy : ev n f y = .int kx i) (hS : OwnSl T size a m cap (fl e xs) S) (hO : Own w (S ++ L)) (hzv : zv.cells = #[zv]) (hez : e z = [zv]) (h1 : ∀ x, ∀ u ∈ e x, u.oneCell' = true) (hm : xs.length = m) (hmk : mkO bytes z i = some ys) (hz : appO bytes xs ys = some zs)
    (K : ∀ a' m' cap' S' w', zs.length = m' → OwnSl T size a' m' cap' (fl e zs) S' → Own w' (S' ++ L) → Ext w (S ++ L) w' (S' ++ L) → wpList P ops Q rest (act n (upd f d (.slice a' m' cap'))) w') :
    wpList P ops Q (⟨some d, .call { callee := .builtin .append, args := #[x, y], argTypes := #[t, ti] }, ty, pos, af, none⟩ :: rest) (act n f) w := by
  obtain ⟨h0, _, rfl⟩ := mkOE hmk
  obtain ⟨hb, rfl⟩ := appE hz
  rw [List.length_replicate] at hb
  have hy' : ev n f y = .int kx (i.toNat : Int) := by rw [hy, Int.toNat_of_nonneg h0]
  refine s_appendZ (k := i.toNat) (mk := m + i.toNat) ht hti hI hzs hsz hby hx hy' hS hO (by rw [zc_fl hzv hez]; exact fl_one' h1 _) rfl (by rw [← hm]; exact hb) ?_
  intro a' cap' S' w' h2 h3 h4
  refine K a' (m + i.toNat) cap' S' w' (by rw [List.length_append, hm, List.length_replicate]) (by rw [fl_app, ← zc_fl hzv hez]; exact h2) h3 h4
theorem a_lit {α : Type} {en : α → List Value} {xs : List α} {e : TypeId} {len : Nat} {parts : List (Nat × Operand)} {vs : List Value} {zv : Value} {size bytes : Nat} (ht : P.underlying t = some (.slice e)) (hI : TI P e zv size bytes) (hO : Own w L) (hp : parts.map (fun p => (p.1, ev n f p.2)) = numbered 0 vs)
    (hl : vs.length = len) (hv : ∀ v ∈ vs, v.cells.size = size) (hlim : len * size ≤ 16777216) (hE : (vs.map (·.cells.toList)).flatten = fl en xs) (he : ∀ x, (en x).length = size) (hxs : xs.length = len) (hmx : len ≤ maxLen)
    (k : ∀ a' m' c' S w', xs.length = m' → OwnSl e size a' m' c' (fl en xs) S → Own w' (S ++ L) → Ext w L w' (S ++ L) → wpList P ops Q rest (act n (upd f d (.slice a' m' c'))) w') :
    wpList P ops Q (⟨some d, .buildSlice t len parts.toArray, ty, pos, af, none⟩ :: rest) (act n f) w := by
  refine s_bsE ht hI hO hp hl hv hlim hE ?_
  intro b w' _ _ hO' hE'
  exact k (some ⟨b, 0, none⟩) len len [(b, .cells (fl en xs).toArray e (0, 0))] w' hxs (OwnSl.lit (by rw [fl_len he, hxs]) hmx) hO' hE'
theorem a_make {α : Type} {en : α → List Value} {z : α} {zs : List α} {kd kd' : IntKind} {i : Int} {e : TypeId} {zv : Value} {bytes : Nat} (ht : P.underlying t = some (.slice e)) (hI : TI P e zv 1 bytes) (hz : zv.cells = #[zv]) (hO : Own w L) (hx : ev n f x = .int kd i) (hy : ev n f y = .int kd' i) (hb : 0 < bytes) (hez : en z = [zv]) (he : ∀ x, (en x).length = 1) (hm : mkO bytes z i = some zs)
    (k : ∀ a' m' c' S w', zs.length = m' → OwnSl e 1 a' m' c' (fl en zs) S → Own w' (S ++ L) → Ext w L w' (S ++ L) → wpList P ops Q rest (act n (upd f d (.slice a' m' c'))) w') :
    wpList P ops Q (⟨some d, .makeSlice t x y, ty, pos, af, none⟩ :: rest) (act n f) w := by
  obtain ⟨h0, h1, rfl⟩ := mkOE hm
  have hx' : ev n f x = .int kd (i.toNat : Int) := by rw [hx, Int.toNat_of_nonneg h0]
  have hy' : ev n f y = .int kd' (i.toNat : Int) := by rw [hy, Int.toNat_of_nonneg h0]
  refine s_make ht hI hz hO hx' hy' h1 hb ?_
  intro b w' _ _ hO' hE'
  have e1 : List.replicate i.toNat zv = fl en (List.replicate i.toNat z) := rep_fl hez _
  rw [e1] at hO' hE'
  have h2 : i.toNat ≤ maxLen := by
    have : i.toNat ≤ 281474976710656 := Nat.le_trans (Nat.le_mul_of_pos_right _ hb) h1
    unfold maxLen; omega
  exact k (some ⟨b, 0, none⟩) i.toNat i.toNat [(b, .cells (fl en (List.replicate i.toNat z)).toArray e (0, 0))] w' List.length_replicate (OwnSl.lit (by rw [fl_len he, List.length_replicate]) h2) hO' hE'
/-- The address of an element of a row of one's own, and a store there. -/
theorem a_idxO {α : Type} {e : α → List Value} {xs : List α} {v : α} {a : Option Addr} {m c : Nat} {kd : IntKind} {i : Int} {T : TypeId} {zv : Value} {size bytes : Nat} {S : Hp}
    (ht : P.underlying t = some (.slice T)) (hI : TI P T zv size bytes) (hx : ev n f x = .slice a m c) (hy : ev n f y = .int kd i) (hS : OwnSl T size a m c (fl e xs) S) (hm : xs.length = m) (hv : ix xs i = some v)
    (k : ∀ g, a = some ⟨g, 0, none⟩ → wpList P ops Q rest (act n (upd f d (.pointer (some ⟨g, i.toNat * size, none⟩)))) w) :
    wpList P ops Q (⟨some d, .indexAddr t x y, ty, pos, af, none⟩ :: rest) (act n f) w := by
  obtain ⟨h0, h1, h2⟩ := ixE hv
  refine s_idxO ht hI hx hy h0 (by omega) hS ?_
  intro g tl hg _ _ _ _ _
  exact k g hg
theorem fl_setE {α : Type} {e : α → List Value} {size : Nat} (he : ∀ x, (e x).length = size) : ∀ {xs : List α} {i : Nat} {v v' : α} {vs : List Value} {off : Nat}, xs[i]? = some v → off + vs.length ≤ size → e v' = (e v).take off ++ vs ++ (e v).drop (off + vs.length) →
    ∀ tl : List Value, (fl e xs ++ tl).take (i * size + off) ++ vs ++ (fl e xs ++ tl).drop (i * size + off + vs.length) = fl e (xs.set i v') ++ tl
  | [], i, v, v', vs, off, h, _, _, tl => by simp at h
  | x :: xs, 0, v, v', vs, off, h, ho, hv, tl => by
    simp at h
    subst h
    have hx := he x
    simp only [Nat.zero_mul, Nat.zero_add, List.set_cons_zero, fl_cons, List.append_assoc]
    rw [List.take_append_of_le_length (by omega), List.drop_append_of_le_length (by omega), hv]
    simp
  | x :: xs, i + 1, v, v', vs, off, h, ho, hv, tl => by
    simp at h
    have hx := he x
    have ih := fl_setE he h ho hv tl
    have e1 : (i + 1) * size + off = size + (i * size + off) := by rw [Nat.succ_mul]; omega
    simp only [List.set_cons_succ, fl_cons, List.append_assoc]
    rw [← List.append_assoc, e1, List.take_append, hx]
    rw [List.take_of_length_le (by omega), show size + (i * size + off) - size = i * size + off by omega]
    rw [List.drop_append, hx, List.drop_of_length_le (by omega), show size + (i * size + off) + vs.length - size = i * size + off + vs.length by omega]
    simp only [List.nil_append, List.append_assoc]
    rw [← ih]
    simp
theorem a_storeO {α : Type} {e : α → List Value} {xs : List α} {v v' : α} {T : TypeId} {g m c off size bytes : Nat} {i : Int} {a : Option Addr} {ad : Addr} {vl : Value} {vs : List Value} {zv : Value} {S : Hp} (hI : TI P t zv vs.length bytes) (hx : ev n f x = .pointer (some ad)) (hy : ev n f y = vl) (hc : vl.cells.toList = vs) (ha : ad = ⟨g, i.toNat * size + off, none⟩)
    (hga : a = some ⟨g, 0, none⟩) (hS : OwnSl T size a m c (fl e xs) S) (hO : Own w (S ++ L)) (he : ∀ x, (e x).length = size) (hm : xs.length = m) (hv : ix xs i = some v) (hoff : off + vs.length ≤ size) (h1 : ∀ u ∈ vs, u.oneCell' = true) (hv' : e v' = (e v).take off ++ vs ++ (e v).drop (off + vs.length))
    (k : ∀ S' w', OwnSl T size a m c (fl e (xs.set i.toNat v')) S' → Own w' (S' ++ L) → Ext w (S ++ L) w' (S' ++ L) → wpList P ops Q rest (act n f) w') :
    wpList P ops Q (⟨none, .store t x y, ty, pos, af, none⟩ :: rest) (act n f) w := by
  subst hga ha
  obtain ⟨h0, h2, h3⟩ := ixE hv
  obtain ⟨hl, hS⟩ := hS
  rcases hS with ⟨h, _⟩ | ⟨g', tl, hg, rfl, hcl, hmc, hmx⟩
  · cases h
  obtain rfl : g = g' := by injection hg with hg; injection hg
  have hb : w.heap[g]? = some (.cells (fl e xs ++ tl).toArray T (0, 0)) := hO.at_ (g, .cells (fl e xs ++ tl).toArray T (0, 0)) (by simp)
  have hin : i.toNat * size + off + vs.length ≤ (fl e xs ++ tl).length := by
    rw [List.length_append, hl, ← hm]
    have : (i.toNat + 1) * size ≤ xs.length * size := Nat.mul_le_mul_right _ (by omega)
    rw [Nat.succ_mul] at this
    omega
  have key := fl_setE he h2 hoff hv' tl
  have hO1 : Own w ((g, .cells (fl e xs ++ tl).toArray T (0, 0)) :: L) := hO
  refine s_unit (w' := w.setRow g (((fl e xs ++ tl).take (i.toNat * size + off) ++ vs ++ (fl e xs ++ tl).drop (i.toNat * size + off + vs.length))).toArray) rfl ?_
    (k [(g, .cells (fl e (xs.set i.toNat v') ++ tl).toArray T (0, 0))] _ ⟨?_, .inr ⟨g, tl, rfl, rfl, ?_, hmc, hmx⟩⟩ ?_ ?_)
  · have h4 := hI.sizeOf (w := w)
    have h5 := run_storeCells_at (P := P) g (i.toNat * size + off) T vs 0 (fl e xs ++ tl).toArray w hb (by simpa using hin) h1
    simp at h5
    have h6 : vl.cells = vs.toArray := by rw [← hc]
    simp [execOp, hx, hy, Instr.storeAt, Instr.sureAddr, storeVar, h4, h6, h5]
  · rw [fl_len he, List.length_set, hm]
  · rw [List.length_append, fl_len he, List.length_set]; rw [List.length_append, fl_len he] at hcl; exact hcl
  · rw [key]; exact own_put hO1 (setRow_at hb) (fun j hj => setRow_other w g j _ hj)
  · rw [key]; exact ext_put rfl rfl rfl (by simp [World.setRow]) (fun j hj => setRow_other w g j _ hj)
theorem zero_one {zc : Array Value} (h1 : ∀ u ∈ zc.toList, u.oneCell' = true) (k : Nat) : ∀ u ∈ (Builtin.zeroCells zc k).toList, u.oneCell' = true := by
  intro u hu
  simp only [Builtin.zeroCells, Array.toList_map, List.mem_map] at hu
  obtain ⟨i, hi, rfl⟩ := hu
  have hi' : i < k * zc.size := by simpa using hi
  have hz : 0 < zc.size := by
    rcases Nat.eq_zero_or_pos zc.size with h | h
    · rw [h] at hi'; omega
    · exact h
  have hlt : i % zc.size < zc.size := Nat.mod_lt _ hz
  rw [getElem!_pos zc _ hlt]
  exact h1 _ (by simp)
/-- clear(s[l:]), s one's own: what lay there is of no more use. -/
theorem a_clearO {α : Type} {e : α → List Value} {xs : List α} {a A : Option Addr} {m c c' l : Nat} {T : TypeId} {zv : Value} {size bytes : Nat} {S : Hp} (ht : P.underlying t = some (.slice T)) (hI : TI P T zv size bytes) (hzs : zv.cells.size = size) (h1 : ∀ u ∈ zv.cells.toList, u.oneCell' = true)
    (hx : ev n f x = .slice A (m - l) c') (hA : A = (if c = l then a else a.map (·.add (l * size)))) (hS : OwnSl T size a m c (fl e xs) S) (hO : Own w (S ++ L)) (he : ∀ x, (e x).length = size) (hm : xs.length = m) (hl : l ≤ m)
    (k : ∀ junk S' w', OwnSl T size a m c (fl e (xs.take l) ++ junk) S' → Own w' (S' ++ L) → Ext w (S ++ L) w' (S' ++ L) → wpList P ops Q rest (act n f) w') :
    wpList P ops Q (⟨none, .call { callee := .builtin .clear, args := #[x], argTypes := #[t] }, ty, pos, af, none⟩ :: rest) (act n f) w := by
  have split : fl e xs = fl e (xs.take l) ++ fl e (xs.drop l) := by rw [← fl_app, List.take_append_drop]
  obtain ⟨hl0, hS⟩ := hS
  rcases hS with ⟨rfl, rfl, rfl, rfl⟩ | ⟨g, tl, rfl, rfl, hc, hmc, hmx⟩
  · obtain rfl : l = 0 := by omega
    refine s_val (v := .tuple #[]) (w' := w) rfl ?_ (k (fl e (xs.drop 0)) [] w (by rw [← split]; exact ⟨hl0, .inl ⟨rfl, rfl, rfl, rfl⟩⟩) hO (Ext.refl _ _))
    simp at hA
    simp [execOp, resolve, invoke, builtin, hx, hA, Builtin.clear_, run_underlying ht]
  · by_cases hk : m - l = 0
    · refine s_val (v := .tuple #[]) (w' := w) rfl ?_ (k (fl e (xs.drop l)) _ w (by rw [← split]; exact ⟨hl0, .inr ⟨g, tl, rfl, rfl, hc, hmc, hmx⟩⟩) hO (Ext.refl _ _))
      rw [hk] at hx
      have hA' : ∃ ad, A = some ad := by subst hA; split <;> exact ⟨_, rfl⟩
      obtain ⟨ad, rfl⟩ := hA'
      simp [execOp, resolve, invoke, builtin, hx, Builtin.clear_, run_underlying ht]
    · have hcl : ¬ c = l := by omega
      rw [if_neg hcl] at hA
      simp only [Option.map_some, add_row] at hA
      subst hA
      have hb : w.heap[g]? = some (.cells (fl e xs ++ tl).toArray T (0, 0)) := hO.at_ (g, .cells (fl e xs ++ tl).toArray T (0, 0)) (by simp)
      obtain ⟨zs, hzz⟩ : ∃ zs, zs = (Builtin.zeroCells zv.cells (m - l)).toList := ⟨_, rfl⟩
      have hzl : zs.length = (m - l) * size := by rw [hzz, zeroCells_len, hzs]
      have hz1 : ∀ u ∈ zs, u.oneCell' = true := by rw [hzz]; exact zero_one h1 _
      have hsum : l * size + (m - l) * size = m * size := by rw [← Nat.add_mul]; congr 1; omega
      have hfl : (fl e (xs.take l)).length = l * size := by rw [fl_len he, List.length_take]; congr 1; omega
      have hroom : l * size + zs.length ≤ (fl e xs ++ tl).length := by rw [List.length_append, hl0, hzl]; omega
      have key : (fl e xs ++ tl).take (l * size) ++ zs ++ (fl e xs ++ tl).drop (l * size + zs.length) = fl e (xs.take l) ++ zs ++ tl := by
        rw [List.take_append_of_le_length (by rw [hl0]; omega), List.drop_append, hl0, hzl, hsum, Nat.sub_self, List.drop_zero, List.drop_of_length_le (by rw [hl0]; omega), split, List.take_append_of_le_length (by rw [hfl]; exact Nat.le_refl _), List.take_of_length_le (by rw [hfl]; exact Nat.le_refl _)]
        simp
      have hO1 : Own w ((g, .cells (fl e xs ++ tl).toArray T (0, 0)) :: L) := hO
      have hlz : (fl e (xs.take l) ++ zs).length = m * size := by rw [List.length_append, hfl, hzl, hsum]
      refine s_val (v := .tuple #[]) (w' := w.setRow g ((fl e xs ++ tl).take (l * size) ++ zs ++ (fl e xs ++ tl).drop (l * size + zs.length)).toArray) rfl ?_
        (k zs [(g, .cells (fl e (xs.take l) ++ zs ++ tl).toArray T (0, 0))] _ ⟨hlz, .inr ⟨g, tl, rfl, rfl, by rw [List.length_append, hlz]; rw [List.length_append, hl0] at hc; exact hc, hmc, hmx⟩⟩ ?_ ?_)
      · have h4 := hI.zeroOf (w := w)
        have h5 := run_storeCells_at (P := P) g (l * size) T zs 0 (fl e xs ++ tl).toArray w hb (by simpa using hroom) hz1
        simp at h5
        have h6 : m - l = (m - l - 1) + 1 := by omega
        rw [h6] at hx hzz
        simp [execOp, resolve, invoke, builtin, hx, Builtin.clear_, run_underlying ht, h4, ← hzz, h5]
      · rw [key]; exact own_put hO1 (setRow_at hb) (fun j hj => setRow_other w g j _ hj)
      · rw [key]; exact ext_put rfl rfl rfl (by simp [World.setRow]) (fun j hj => setRow_other w g j _ hj)
/-- s[:h] of a row of one's own: it is that from now on. -/
theorem a_shrink {α : Type} {e : α → List Value} {xs ys : List α} {junk : List Value} {size bytes : Nat} {a : Option Addr} {m c : Nat} {T : TypeId} {zv : Value} {kd : IntKind} {hi : Operand} {h : Int} {S : Hp} (ht : P.underlying t = some (.slice T)) (hI : TI P T zv size bytes) (hx : ev n f x = .slice a m c) (hy : ev n f hi = .int kd h)
    (hS : OwnSl T size a m c (fl e xs ++ junk) S) (hxm : xs.length ≤ m) (he : ∀ x, (e x).length = size) (hc : cutO xs 0 h = some ys)
    (k : ∀ m', ys.length = m' → OwnSl T size a m' c (fl e ys) S → wpList P ops Q rest (act n (upd f d (.slice a m' c))) w) :
    wpList P ops Q (⟨some d, .slice t x none (some hi) none, ty, pos, af, none⟩ :: rest) (act n f) w := by
  obtain ⟨h0, h1, h2, rfl⟩ := cutE hc
  have hle := hS.le
  have hs : fl e xs ++ junk = fl e (xs.take h.toNat) ++ (fl e (xs.drop h.toNat) ++ junk) := by rw [← List.append_assoc, ← fl_app, List.take_append_drop]
  rw [hs] at hS
  have hx2 : (xs.take h.toNat).length = h.toNat := by rw [List.length_take]; omega
  have hS2 := hS.shrink (k := h.toNat) (by rw [fl_len he, hx2]) (by omega)
  have e1 : (xs.drop (0 : Int).toNat).take (h - 0).toNat = xs.take h.toNat := by simp
  rw [e1] at k
  have h9 : h ≤ (c : Int) := by omega
  have h10 := sb_h (P := P) (w := w) (m := m) (c := c) (b := true) (kd := kd) (h := h) h1 h9
  refine s_cut (lo := none) (hi := some hi) (mx := none) (l := 0) (h := h.toNat) (q := c) ht hI hx (by simp only [Option.map_none, Option.map_some, hy]; exact h10) ?_
  intro a' ha'
  rw [cut0] at ha'
  subst ha'
  exact k h.toNat hx2 hS2
end
theorem nil_row {α : Type} {e : α → List Value} {xs : List α} {size : Nat} {w : World} {L : Hp} {a : Option Addr} (he : ∀ x, (e x).length = size) (hs : 0 < size) (hn : a.isNone = true) (hR : Rd w L a (fl e xs)) : xs = [] := by
  cases a with
  | none => exact hR.nilE he hs
  | some a => cases hn
theorem eB1 (x : UInt8) : ∀ u ∈ eB x, u.oneCell' = true := by simp [eB, Value.oneCell']
theorem eI1 (x : Int) : ∀ u ∈ eI x, u.oneCell' = true := by simp [eI, Value.oneCell']
theorem nt {b : Bool} (h : b = false) : ¬ (b = true) := by rw [h]; decide
theorem nnt {b : Bool} (h : b = true) : (!b) = false := by rw [h]; rfl
theorem nnf {b : Bool} (h : b = false) : (!b) = true := by rw [h]; rfl
theorem nn {b : Bool} {c : Bool} (h : b = c) : (!b) = !c := by rw [h]
/-- What holds of each element of a row that leads on. -/
def RpAll {ρ α : Type} (R : World → Hp → ρ → α → Prop) (w : World) (L : Hp) (rs : List ρ) (xs : List α) : Prop := rs.length = xs.length ∧ ∀ (i : Nat) r x, rs[i]? = some r → xs[i]? = some x → R w L r x
def RExt {ρ α : Type} (R : World → Hp → ρ → α → Prop) : Prop := ∀ {w w' : World} {L L' : Hp} {r : ρ} {x : α}, R w L r x → Ext w L w' L' → R w' L' r x
theorem RpAll.ext {ρ α : Type} {R : World → Hp → ρ → α → Prop} {w w' : World} {L L' : Hp} {rs : List ρ} {xs : List α} (h : RpAll R w L rs xs) (hR : RExt R) (e : Ext w L w' L') : RpAll R w' L' rs xs := ⟨h.1, fun i r x h1 h2 => hR (h.2 i r x h1 h2) e⟩
theorem d_many3 {P : Program} {Q : Exit → Act → World → Prop} {n k : Nat} {f : Fr} {w : World} {S : World → Prop} {l : List Oper} {i0 i1 i2 fuel : Nat} {listed l0 l1 l2 : Array Bool} {o0 o1 o2 : Oper} (h0 : l[i0]? = some o0) (h1 : l[i1]? = some o1) (h2 : l[i2]? = some o2) (hr : Region.ready .any l.toArray listed = [i0, i1, i2]) (hl0 : listed.setIfInBounds i0 true = l0) (hl1 : listed.setIfInBounds i1 true = l1) (hl2 : listed.setIfInBounds i2 true = l2)
    (g0 : wpList P l.toArray (QD P l.toArray Q S k n fuel l0) [o0] (act n f) w) (g1 : wpList P l.toArray (QD P l.toArray Q S k n fuel l1) [o1] (act n f) w) (g2 : wpList P l.toArray (QD P l.toArray Q S k n fuel l2) [o2] (act n f) w) : WH P l.toArray Q S k n (fuel + 1) listed f w :=
  ⟨fun h0 => (by rw [hr] at h0; cases h0), fun q hq => by
    rw [hr] at hq
    simp only [List.mem_cons, List.not_mem_nil, or_false] at hq
    rcases hq with rfl | rfl | rfl
    · exact d_op h0 hl0 g0
    · exact d_op h1 hl1 g1
    · exact d_op h2 hl2 g2⟩

theorem d_many4 {P : Program} {Q : Exit → Act → World → Prop} {n k : Nat} {f : Fr} {w : World} {S : World → Prop} {l : List Oper} {i0 i1 i2 i3 fuel : Nat} {listed l0 l1 l2 l3 : Array Bool} {o0 o1 o2 o3 : Oper} (h0 : l[i0]? = some o0) (h1 : l[i1]? = some o1) (h2 : l[i2]? = some o2) (h3 : l[i3]? = some o3) (hr : Region.ready .any l.toArray listed = [i0, i1, i2, i3]) (hl0 : listed.setIfInBounds i0 true = l0) (hl1 : listed.setIfInBounds i1 true = l1) (hl2 : listed.setIfInBounds i2 true = l2) (hl3 : listed.setIfInBounds i3 true = l3)
    (g0 : wpList P l.toArray (QD P l.toArray Q S k n fuel l0) [o0] (act n f) w) (g1 : wpList P l.toArray (QD P l.toArray Q S k n fuel l1) [o1] (act n f) w) (g2 : wpList P l.toArray (QD P l.toArray Q S k n fuel l2) [o2] (act n f) w) (g3 : wpList P l.toArray (QD P l.toArray Q S k n fuel l3) [o3] (act n f) w) : WH P l.toArray Q S k n (fuel + 1) listed f w :=
  ⟨fun h0 => (by rw [hr] at h0; cases h0), fun q hq => by
    rw [hr] at hq
    simp only [List.mem_cons, List.not_mem_nil, or_false] at hq
    rcases hq with rfl | rfl | rfl | rfl
    · exact d_op h0 hl0 g0
    · exact d_op h1 hl1 g1
    · exact d_op h2 hl2 g2
    · exact d_op h3 hl3 g3⟩

theorem d_skipU {P : Program} {Q : Exit → Act → World → Prop} {n k : Nat} {f : Fr} {w : World} {S : World → Prop} {l : List Oper} {i fuel j : Nat} (dj : Tmp) {want : Bool} {listed listed' : Array Bool} {o : Oper} (hi : l[i]? = some o) (hb : okB l.toArray listed k i = true) (hl : listed.setIfInBounds i true = listed')
    (hQ : ∀ c a w, Q (.panic c) (a.put o.dst undef) w → Q (.panic c) a w) (hg : o.guard = some (j, want)) (hj : (l[j]?).bind (·.dst) = some dj) (hv : ev n f (.tmp dj) = undef) (hS : S w)
    (h : WH P l.toArray Q S k n fuel listed' (pt f o.dst undef) w) : WH P l.toArray Q S k n (fuel + 1) listed f w := by
  subst hl
  simp only [okB, Bool.and_eq_true, Bool.not_eq_true'] at hb
  obtain ⟨⟨⟨⟨h1, h2⟩, h3⟩, h4⟩, h5⟩ := hb
  have hy : yielded l.toArray (act n f).tmps j ≠ some want := by
    unfold yielded
    have hj' : (l.toArray[j]?).bind (·.dst) = some dj := by simpa using hj
    rw [hj']
    simp only [Option.bind_some]
    have h := getD_tmps' n f dj
    rw [hv] at h
    cases hh : (act n f).tmps[dj]? with
    | none => simp
    | some v => rw [hh] at h; simp only [Option.getD_some] at h; subst h; simp [undef]
  refine AnyK.first (ops := l.toArray) (v := undef) (by simpa using hi) (Region.noSelect_spec h1) hQ (waitsB_spec h4) fuel listed _ w h5 (Region.free_spec (ops := l.toArray) (by simpa using hi) h2) (by simpa using h3) (.inr ⟨?_, rfl⟩) hS ?_
  · simp only [Region.wanted, hg]
    cases hyy : yielded l.toArray (act n f).tmps j with
    | none => rfl
    | some b => rw [hyy] at hy; simp only [ne_eq, Option.some.injEq] at hy; cases b <;> cases want <;> simp_all
  · rw [act_put]
    exact h

abbrev I_ : Bool := true
abbrev O_ : Bool := false
theorem bindG {α β : Type} {x : Option α} {f : α → Option β} {r : β} (h : x.bind f = some r) : ∃ (y : α) (G : α → Option β), G = f ∧ x = some y ∧ G y = some r := by
  obtain ⟨y, h1, h2⟩ := bindE h
  exact ⟨y, f, rfl, h1, h2⟩
theorem bindS {α β : Type} {x : Option (α ⊕ β)} {f : α → Option β} {r : β} (h : x.bind (Sum.elim f some) = some r) : ∃ (y : α ⊕ β) (G : α → Option β), G = f ∧ x = some y ∧ Sum.elim G some y = some r := by
  obtain ⟨y, h1, h2⟩ := bindE h
  exact ⟨y, f, rfl, h1, h2⟩
theorem hG_ {α β : Type} {G f : α → Option β} {y : α} {r : β} (hG : G = f) (h : G y = some r) : f y = some r := by rw [← hG]; exact h
section
variable {P : Program} {ops : Array Oper} {Q : Exit → Act → World → Prop} {rest : List Oper} {n k : Nat} {f : Fr} {w : World} {S : World → Prop} {l : List Oper} {listed listed' : Array Bool} {fuel : Nat}
theorem sv {o : Oper} {v : Value} {w' : World} (h : (execOp (ev n f) o).run P w = .ok (.value v) w') (k : wpList P ops Q rest (act n (pt f o.dst v)) w') (hg : o.guard = none := by rfl) : wpList P ops Q (o :: rest) (act n f) w := s_val hg h k
theorem dT {i : Nat} {o : Oper} {v : Value} (hi : l[i]? = some o) (hP : PanicOK Q) (hS : S w) (hy : ∀ w, S w → (execOp (ev n f) o).run P w = .ok (.value v) w) (h : WH P l.toArray Q S k n fuel listed' (pt f o.dst v) w) (hb : okB l.toArray listed k i = true := by kernel_rfl) (hl : listed.setIfInBounds i true = listed' := by rfl) (hg : o.guard = none := by rfl) :
    WH P l.toArray Q S k n (fuel + 1) listed f w := d_take hi hb hl hP.t hg hS hy h
theorem dG {i j : Nat} {o : Oper} {v : Value} {want : Bool} (hi : l[i]? = some o) (dj : Tmp) (hP : PanicOK Q) (hv : ev n f (.tmp dj) = .bool want) (hS : S w) (hy : ∀ w, S w → (execOp (ev n f) o).run P w = .ok (.value v) w) (h : WH P l.toArray Q S k n fuel listed' (pt f o.dst v) w) (hb : okB l.toArray listed k i = true := by kernel_rfl) (hl : listed.setIfInBounds i true = listed' := by rfl) (hg : o.guard = some (j, want) := by rfl) (hj : (l[j]?).bind (·.dst) = some dj := by rfl) :
    WH P l.toArray Q S k n (fuel + 1) listed f w := d_takeG dj hi hb hl hP.t hg hj hv hS hy h
theorem dS {i j : Nat} {o : Oper} {want b : Bool} (hi : l[i]? = some o) (dj : Tmp) (hP : PanicOK Q) (hv : ev n f (.tmp dj) = .bool b) (hS : S w) (h : WH P l.toArray Q S k n fuel listed' (pt f o.dst undef) w) (hb : okB l.toArray listed k i = true := by kernel_rfl) (hl : listed.setIfInBounds i true = listed' := by rfl) (hg : o.guard = some (j, want) := by rfl) (hj : (l[j]?).bind (·.dst) = some dj := by rfl) (hne : (b == want) = false := by rfl) :
    WH P l.toArray Q S k n (fuel + 1) listed f w := d_skipG dj hi hb hl hP.t hg hj hv hne hS h
theorem dU {i j : Nat} {o : Oper} {want : Bool} (hi : l[i]? = some o) (dj : Tmp) (hP : PanicOK Q) (hS : S w) (h : WH P l.toArray Q S k n fuel listed' (pt f o.dst undef) w) (hb : okB l.toArray listed k i = true := by kernel_rfl) (hl : listed.setIfInBounds i true = listed' := by rfl) (hg : o.guard = some (j, want) := by rfl) (hj : (l[j]?).bind (·.dst) = some dj := by rfl) (hv : ev n f (.tmp dj) = undef := by rfl) :
    WH P l.toArray Q S k n (fuel + 1) listed f w := d_skipU dj hi hb hl hP.t hg hj hv hS h
theorem d1 {i : Nat} {o : Oper} (h : wpList P l.toArray (QD P l.toArray Q S k n fuel listed') [o] (act n f) w) (hi : l[i]? = some o := by rfl) (hr : Region.ready .any l.toArray listed = [i] := by kernel_rfl) (hl : listed.setIfInBounds i true = listed' := by rfl) : WH P l.toArray Q S k n (fuel + 1) listed f w := d_one hi hr hl h
end
end Go.AV
