/- A part of the proof that the row of the law holds of the program as translated: lemmas and contracts of its functions. -/
/-! Plain words of the functions that the generator av.py prints: what may fail is an Option, a loop is 'loopO'. No program in sight. -/
set_option linter.unusedVariables false
namespace Go.AV
section
variable {α β σ ρ : Type}
theorem iT {c : Prop} [Decidable c] {x y z : Option α} (hc : c) (h : (if c then x else y) = z) : x = z := by rwa [if_pos hc] at h
theorem iF {c : Prop} [Decidable c] {x y z : Option α} (hc : ¬ c) (h : (if c then x else y) = z) : y = z := by rwa [if_neg hc] at h
theorem bindE {x : Option α} {f : α → Option β} {r : β} (h : x.bind f = some r) : ∃ y, x = some y ∧ f y = some r := Option.bind_eq_some_iff.1 h
theorem mapE {x : Option α} {f : α → β} {r : β} (h : x.map f = some r) : ∃ y, x = some y ∧ f y = r := Option.map_eq_some_iff.1 h
/-- An element. -/
def ix (xs : List α) (i : Int) : Option α := if 0 ≤ i then xs[i.toNat]? else none
theorem ixE {xs : List α} {i : Int} {v : α} (h : ix xs i = some v) : 0 ≤ i ∧ xs[i.toNat]? = some v ∧ i < xs.length := by
  unfold ix at h
  split at h
  · rename_i h0
    have := (List.getElem?_eq_some_iff.1 h).1
    exact ⟨h0, h, by omega⟩
  · cases h
theorem ix_of {xs : List α} {i : Int} (h0 : 0 ≤ i) (h1 : i.toNat < xs.length) : ix xs i = some xs[i.toNat] := by simp [ix, h0, h1]
theorem ix_nat {xs : List α} {i : Nat} {v : α} (h : xs[i]? = some v) : ix xs (i : Int) = some v := by simp [ix, h]
/-- A part of a row. -/
def cutO (xs : List α) (l h : Int) : Option (List α) := if 0 ≤ l ∧ l ≤ h ∧ h ≤ xs.length then some ((xs.drop l.toNat).take (h - l).toNat) else none
theorem cutE {xs ys : List α} {l h : Int} (e : cutO xs l h = some ys) : 0 ≤ l ∧ l ≤ h ∧ h ≤ xs.length ∧ (xs.drop l.toNat).take (h - l).toNat = ys := by
  unfold cutO at e
  split at e
  · rename_i h0
    exact ⟨h0.1, h0.2.1, h0.2.2, Option.some.inj e⟩
  · cases e
theorem cut_of {xs : List α} {l h : Int} (h0 : 0 ≤ l) (h1 : l ≤ h) (h2 : h ≤ xs.length) : cutO xs l h = some ((xs.drop l.toNat).take (h - l).toNat) := if_pos ⟨h0, h1, h2⟩
/-- What must hold. -/
def grd (c : Prop) [Decidable c] : Option Unit := if c then some () else none
theorem grdE {c : Prop} [Decidable c] {u : Unit} (h : grd c = some u) : c := by
  unfold grd at h
  split at h
  · assumption
  · cases h
@[simp] theorem grd_true {c : Prop} [Decidable c] (h : c) : grd c = some () := if_pos h
/-- An append: what Go may lay. -/
def appO (n : Nat) (xs ys : List α) : Option (List α) := if (xs.length + ys.length) * n ≤ 140737488355328 then some (xs ++ ys) else none
theorem appE {n : Nat} {xs ys zs : List α} (h : appO n xs ys = some zs) : (xs.length + ys.length) * n ≤ 140737488355328 ∧ xs ++ ys = zs := by
  unfold appO at h
  split at h
  · rename_i h0; exact ⟨h0, Option.some.inj h⟩
  · cases h
theorem app_of {n : Nat} {xs ys : List α} (h : (xs.length + ys.length) * n ≤ 140737488355328) : appO n xs ys = some (xs ++ ys) := if_pos h
/-- A row laid anew. -/
def mkO (n : Nat) (z : α) (i : Int) : Option (List α) := if 0 ≤ i ∧ i.toNat * n ≤ 281474976710656 then some (List.replicate i.toNat z) else none
theorem mkOE {n : Nat} {z : α} {i : Int} {xs : List α} (h : mkO n z i = some xs) : 0 ≤ i ∧ i.toNat * n ≤ 281474976710656 ∧ List.replicate i.toNat z = xs := by
  unfold mkO at h
  split at h
  · rename_i h0; exact ⟨h0.1, h0.2, Option.some.inj h⟩
  · cases h
/-- A store into a row. -/
def setO (xs : List α) (i : Int) (v : α) : Option (List α) := if 0 ≤ i ∧ i < xs.length then some (xs.set i.toNat v) else none
theorem setE {xs ys : List α} {i : Int} {v : α} (h : setO xs i v = some ys) : 0 ≤ i ∧ i < xs.length ∧ xs.set i.toNat v = ys := by
  unfold setO at h
  split at h
  · rename_i h0; exact ⟨h0.1, h0.2, Option.some.inj h⟩
  · cases h
/-! Loops -/
def iterK (step : σ → Option (σ ⊕ ρ)) : Nat → σ → Option ρ
  | 0, _ => none
  | k + 1, s => (step s).bind (Sum.elim (iterK step k) some)
def lnk (step : σ → Option (σ ⊕ ρ)) (k : Nat) (y : σ ⊕ ρ) (out : ρ) : Prop := Sum.elim (iterK step k) some y = some out
theorem iterE {step : σ → Option (σ ⊕ ρ)} {m : Nat} {s : σ} {out : ρ} (h : iterK step m s = some out) : ∃ k y, m = k + 1 ∧ step s = some y ∧ lnk step k y out := by
  cases m with
  | zero => cases h
  | succ k =>
    obtain ⟨y, h1, h2⟩ := bindE h
    exact ⟨k, y, rfl, h1, h2⟩
theorem crossE {step : σ → Option (σ ⊕ ρ)} {k : Nat} {T : Option ρ} {y : σ ⊕ ρ} {out : ρ} (h : T.map Sum.inr = some y) (hy : lnk step k y out) : T = some out := by
  obtain ⟨o, rfl, rfl⟩ := mapE h
  exact hy
theorem crossC {γ : Type} {T : Option ρ} {f : γ → Option ρ} {y : γ ⊕ ρ} {out : ρ} (h : T.map Sum.inr = some y) (hy : Sum.elim f some y = some out) : T = some out := by
  obtain ⟨o, rfl, rfl⟩ := mapE h
  exact hy
theorem iter_up {step : σ → Option (σ ⊕ ρ)} : ∀ {k m : Nat} {s : σ} {o : ρ}, iterK step k s = some o → k ≤ m → iterK step m s = some o
  | 0, _, _, _, h, _ => by cases h
  | k + 1, 0, _, _, _, h => by omega
  | k + 1, m + 1, s, o, h, hl => by
    obtain ⟨y, h1, h2⟩ := bindE h
    unfold iterK
    rw [h1]
    cases y with
    | inl s' => exact iter_up (k := k) h2 (by omega)
    | inr o' => exact h2
open Classical in
noncomputable def loopO (step : σ → Option (σ ⊕ ρ)) (s : σ) : Option ρ := if h : ∃ o k, iterK step k s = some o then some h.choose else none
theorem loop_iff {step : σ → Option (σ ⊕ ρ)} {s : σ} {o : ρ} : loopO step s = some o ↔ ∃ k, iterK step k s = some o := by
  unfold loopO
  split
  · rename_i h
    constructor
    · intro he
      rw [← Option.some.inj he]
      exact h.choose_spec
    · rintro ⟨k, hk⟩
      obtain ⟨k', hk'⟩ := h.choose_spec
      have h1 := iter_up hk (Nat.le_max_left k k')
      have h2 := iter_up hk' (Nat.le_max_right k k')
      rw [h1] at h2
      rw [Option.some.inj h2]
  · rename_i h
    constructor
    · intro he; cases he
    · rintro ⟨k, hk⟩; exact absurd ⟨o, k, hk⟩ h
theorem loop_eq (step : σ → Option (σ ⊕ ρ)) (s : σ) : loopO step s = (step s).bind (Sum.elim (loopO step) some) := by
  apply Option.ext
  intro o
  rw [loop_iff]
  constructor
  · rintro ⟨k, hk⟩
    obtain ⟨k, y, rfl, h1, h2⟩ := iterE hk
    rw [h1]
    cases y with
    | inl s' => exact loop_iff.2 ⟨k, h2⟩
    | inr o' => exact h2
  · intro h
    obtain ⟨y, h1, h2⟩ := bindE h
    cases y with
    | inl s' =>
      obtain ⟨k, hk⟩ := loop_iff.1 h2
      exact ⟨k + 1, by unfold iterK; rw [h1]; exact hk⟩
    | inr o' => exact ⟨1, by unfold iterK; rw [h1]; exact h2⟩
theorem loop_next {step : σ → Option (σ ⊕ ρ)} {s s' : σ} (h : step s = some (.inl s')) : loopO step s = loopO step s' := by rw [loop_eq, h]; rfl
theorem loop_out {step : σ → Option (σ ⊕ ρ)} {s : σ} {o : ρ} (h : step s = some (.inr o)) : loopO step s = some o := by rw [loop_eq, h]; rfl
theorem loop_none {step : σ → Option (σ ⊕ ρ)} {s : σ} (h : step s = none) : loopO step s = none := by rw [loop_eq, h]; rfl
/-- A loop by a number that falls, and what holds at its head. -/
theorem loop_inv {step : σ → Option (σ ⊕ ρ)} (I : Nat → σ → Prop) (Z : ρ → Prop) (hs : ∀ n s, I n s → (∃ s' m, m < n ∧ step s = some (.inl s') ∧ I m s') ∨ (∃ o, step s = some (.inr o) ∧ Z o)) :
    ∀ n s, I n s → ∃ o, loopO step s = some o ∧ Z o := by
  intro n
  induction n using Nat.strongRecOn with
  | _ n ih =>
    intro s h
    rcases hs n s h with ⟨s', m, hm, h1, h2⟩ | ⟨o, h1, h2⟩
    · obtain ⟨o, h3, h4⟩ := ih m hm s' h2
      exact ⟨o, (loop_next h1).trans h3, h4⟩
    · exact ⟨o, loop_out h1, h2⟩
end
/-! Whole numbers of 64 bits -/
def w64 (x : Int) : Int := (x + 9223372036854775808) % 18446744073709551616 - 9223372036854775808
theorem w64_id {x : Int} (h0 : -9223372036854775808 ≤ x) (h1 : x ≤ 9223372036854775807) : w64 x = x := by unfold w64; omega
end Go.AV
namespace Go.AV
/-! Bits of whole numbers -/
def iand (a b : Int) : Int := (BitVec.ofInt 64 a &&& BitVec.ofInt 64 b).toInt
def ior (a b : Int) : Int := (BitVec.ofInt 64 a ||| BitVec.ofInt 64 b).toInt
def ixor (a b : Int) : Int := (BitVec.ofInt 64 a ^^^ BitVec.ofInt 64 b).toInt
def iandn (a b : Int) : Int := (BitVec.ofInt 64 a &&& ~~~ BitVec.ofInt 64 b).toInt
def ishl (a n : Int) : Int := w64 (a * 2 ^ (min n.toNat 64))
def ishr (a n : Int) : Int := a.fdiv (2 ^ (min n.toNat 64))
end Go.AV
