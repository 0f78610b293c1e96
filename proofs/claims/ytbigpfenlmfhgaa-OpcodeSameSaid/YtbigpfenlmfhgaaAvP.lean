/- A part of the proof that the row of the law holds of the program as translated: lemmas and contracts of its functions. -/
import Derived.Test.YtbigpfenlmfhgaaAvO
/-! Plain lemmas on the words of AvO: loops over rows, rows in order. -/
set_option linter.unusedVariables false
set_option linter.unusedSimpArgs false
namespace Go.AV
section
variable {α β σ ρ : Type}
@[simp] theorem bind_if {c : Prop} [Decidable c] {x y : Option α} {f : α → Option β} : (if c then x else y).bind f = if c then x.bind f else y.bind f := by split <;> rfl
@[simp] theorem map_if {c : Prop} [Decidable c] {x y : Option α} {f : α → β} : (if c then x else y).map f = if c then x.map f else y.map f := by split <;> rfl
theorem w64_succ {i : Nat} (h : i < 4611686018427387904) : w64 ((i : Int) + 1) = ((i + 1 : Nat) : Int) := by rw [w64_id (by omega) (by omega)]; omega
theorem ixN {xs : List α} {i : Nat} : ix xs (i : Int) = xs[i]? := by simp [ix]
theorem ixZ {xs : List α} {i : Int} {v : α} (h : xs[i.toNat]? = some v) (h0 : 0 ≤ i) : ix xs i = some v := by simp [ix, h, h0]
def scanI (f : Nat → α → Option ρ) (z : ρ) : Nat → List α → ρ
  | _, [] => z
  | i, v :: vs => (f i v).getD (scanI f z (i + 1) vs)
theorem loop_scan {step : Int → Option (Int ⊕ ρ)} {xs : List α} (f : Nat → α → Option ρ) (z : ρ)
    (hgo : ∀ (i : Nat) v, xs[i]? = some v → step (i : Int) = some (match f i v with | some o => .inr o | none => .inl ((i + 1 : Nat) : Int))) (hend : step (xs.length : Int) = some (.inr z)) :
    ∀ (n i : Nat), i + n = xs.length → loopO step (i : Int) = some (scanI f z i (xs.drop i)) := by
  intro n
  induction n with
  | zero =>
    intro i hi
    obtain rfl : i = xs.length := by omega
    rw [loop_out hend, List.drop_length]
    rfl
  | succ n ih =>
    intro i hi
    have hlt : i < xs.length := by omega
    have hv : xs[i]? = some xs[i] := List.getElem?_eq_getElem hlt
    rw [List.drop_eq_getElem_cons hlt]
    have h := hgo i _ hv
    cases hf : f i xs[i] with
    | some o => rw [hf] at h; rw [loop_out h]; simp [scanI, hf]
    | none => rw [hf] at h; rw [loop_next h, ih (i + 1) (by omega)]; simp [scanI, hf]
theorem loop_scan0 {step : Int → Option (Int ⊕ ρ)} {xs : List α} (f : Nat → α → Option ρ) (z : ρ)
    (hgo : ∀ (i : Nat) v, xs[i]? = some v → step (i : Int) = some (match f i v with | some o => .inr o | none => .inl ((i + 1 : Nat) : Int))) (hend : step (xs.length : Int) = some (.inr z)) :
    loopO step 0 = some (scanI f z 0 xs) := loop_scan f z hgo hend xs.length 0 (by omega)
theorem loop_fold {step : (σ × Int) → Option ((σ × Int) ⊕ ρ)} {xs : List α} (g : σ → α → σ) (fin : σ → ρ) (Inv : Nat → σ → Prop)
    (hgo : ∀ (i : Nat) s v, xs[i]? = some v → Inv i s → step (s, (i : Int)) = some (.inl (g s v, ((i + 1 : Nat) : Int))) ∧ Inv (i + 1) (g s v)) (hend : ∀ s, Inv xs.length s → step (s, (xs.length : Int)) = some (.inr (fin s))) :
    ∀ (n i : Nat) s, i + n = xs.length → Inv i s → loopO step (s, (i : Int)) = some (fin ((xs.drop i).foldl g s)) := by
  intro n
  induction n with
  | zero =>
    intro i s hi hI
    obtain rfl : i = xs.length := by omega
    rw [loop_out (hend s hI), List.drop_length]
    rfl
  | succ n ih =>
    intro i s hi hI
    have hlt : i < xs.length := by omega
    have hv : xs[i]? = some xs[i] := List.getElem?_eq_getElem hlt
    obtain ⟨h1, h2⟩ := hgo i s _ hv hI
    rw [loop_next h1, ih (i + 1) _ (by omega) h2, List.drop_eq_getElem_cons hlt]
    rfl
/-! ### rows in order, by a key -/
variable {key : α → Int}
def Ord (key : α → Int) (xs : List α) : Prop := xs.Pairwise (fun a b => key a < key b)
def findK (key : α → Int) (xs : List α) (id : Int) : Option α := xs.find? (fun x => key x == id)
def putK (key : α → Int) : List α → α → List α
  | [], d => [d]
  | x :: xs, d => if key x < key d then x :: putK key xs d else if key x = key d then d :: xs else d :: x :: xs
theorem putK_set : ∀ {xs : List α} {p : Nat} {d d' : α}, (∀ k x, k < p → xs[k]? = some x → key x < key d') → xs[p]? = some d → key d = key d' → putK key xs d' = xs.set p d'
  | [], p, d, d', _, h, _ => by simp at h
  | x :: xs, 0, d, d', _, h, he => by
    simp at h; subst h
    simp [putK, he]
  | x :: xs, p + 1, d, d', hl, h, he => by
    have h0 := hl 0 x (by omega) rfl
    simp only [putK, h0, if_true, List.set_cons_succ]
    rw [putK_set (p := p) (fun k y hk hy => hl (k + 1) y (by omega) (by simpa using hy)) (by simpa using h) he]
theorem putK_ins : ∀ {xs : List α} {p : Nat} {d' : α}, p ≤ xs.length → (∀ k x, k < p → xs[k]? = some x → key x < key d') → (∀ x, xs[p]? = some x → key d' < key x) → putK key xs d' = xs.take p ++ [d'] ++ xs.drop p
  | [], p, d', hp, _, _ => by simp at hp; subst hp; rfl
  | x :: xs, 0, d', _, _, hg => by
    have h0 := hg x rfl
    have h1 : ¬ key x < key d' := by omega
    have h2 : ¬ key x = key d' := by omega
    simp [putK, h1, h2]
  | x :: xs, p + 1, d', hp, hl, hg => by
    have h0 := hl 0 x (by omega) rfl
    simp only [putK, h0, if_true, List.take_succ_cons, List.drop_succ_cons, List.cons_append]
    rw [putK_ins (p := p) (by simpa using hp) (fun k y hk hy => hl (k + 1) y (by omega) (by simpa using hy)) (fun y hy => hg y (by simpa using hy))]
theorem putK_map {γ : Type} {key' : γ → Int} (f : α → γ) (hk : ∀ x, key' (f x) = key x) : ∀ (xs : List α) (d : α), (putK key xs d).map f = putK key' (xs.map f) (f d)
  | [], d => rfl
  | x :: xs, d => by
    simp only [putK, List.map_cons, hk]
    split
    · rw [List.map_cons, putK_map f hk xs d]
    · split <;> rfl
theorem findK_map {γ : Type} {key' : γ → Int} (f : α → γ) (hk : ∀ x, key' (f x) = key x) (xs : List α) (id : Int) : findK key' (xs.map f) id = (findK key xs id).map f := by
  simp only [findK, List.find?_map]
  congr 1
  congr 1
  funext x
  simp [hk]
theorem putK_mem : ∀ {xs : List α} {d y : α}, y ∈ putK key xs d → y = d ∨ y ∈ xs
  | [], d, y, h => by simp [putK] at h; exact .inl h
  | x :: xs, d, y, h => by
    simp only [putK] at h
    split at h
    · rcases List.mem_cons.1 h with h | h
      · exact .inr (by simp [h])
      · rcases putK_mem h with h | h
        · exact .inl h
        · exact .inr (by simp [h])
    · split at h
      · rcases List.mem_cons.1 h with h | h
        · exact .inl h
        · exact .inr (by simp [h])
      · rcases List.mem_cons.1 h with h | h
        · exact .inl h
        · exact .inr h
theorem Ord.put : ∀ {xs : List α} (d : α), Ord key xs → Ord key (putK key xs d)
  | [], d, _ => List.pairwise_singleton _ _
  | x :: xs, d, h => by
    have h' := List.pairwise_cons.1 h
    simp only [putK]
    split
    · rename_i hlt
      refine List.pairwise_cons.2 ⟨fun y hy => ?_, Ord.put d h'.2⟩
      rcases putK_mem hy with rfl | hy
      · exact hlt
      · exact h'.1 y hy
    · split
      · rename_i _ he
        exact List.pairwise_cons.2 ⟨fun y hy => by rw [← he]; exact h'.1 y hy, h'.2⟩
      · rename_i h1 h2
        refine List.pairwise_cons.2 ⟨fun y hy => ?_, h⟩
        rcases List.mem_cons.1 hy with rfl | hy
        · omega
        · have := h'.1 y hy; omega
theorem Ord.get_lt {xs : List α} (h : Ord key xs) {i j : Nat} {x y : α} (hi : xs[i]? = some x) (hj : xs[j]? = some y) (hij : i < j) : key x < key y := by
  obtain ⟨h1, rfl⟩ := List.getElem?_eq_some_iff.1 hi
  obtain ⟨h2, rfl⟩ := List.getElem?_eq_some_iff.1 hj
  exact List.pairwise_iff_getElem.1 h i j h1 h2 hij
theorem Ord.le_len : ∀ {xs : List α} {a b : Int}, Ord key xs → (∀ x ∈ xs, a ≤ key x ∧ key x < b) → a ≤ b → (xs.length : Int) ≤ b - a
  | [], a, b, _, _, hab => by simp; omega
  | x :: xs, a, b, h, hb, hab => by
    have h' := List.pairwise_cons.1 h
    have hx := hb x (by simp)
    have := Ord.le_len (a := key x + 1) (b := b) h'.2 (fun y hy => ⟨by have := h'.1 y hy; omega, (hb y (by simp [hy])).2⟩) (by omega)
    simp only [List.length_cons]
    omega
/-- A place in a row that is in order. -/
def Place (key : α → Int) (xs : List α) (id : Int) (p : Nat) (b : Bool) : Prop :=
  p ≤ xs.length ∧ (∀ k x, k < p → xs[k]? = some x → key x < id) ∧ (∀ k x, p ≤ k → xs[k]? = some x → id ≤ key x) ∧ (b = true ↔ ∃ d, xs[p]? = some d ∧ key d = id)
theorem findK_place {xs : List α} {id : Int} {p : Nat} {b : Bool} (ho : Ord key xs) (h : Place key xs id p b) : findK key xs id = if b = true then xs[p]? else none := by
  obtain ⟨h1, h2, h3, h4⟩ := h
  cases hb : b with
  | true =>
    obtain ⟨d, hd, he⟩ := h4.1 hb
    simp only [if_true]
    rw [hd]
    unfold findK
    rw [List.find?_eq_some_iff_getElem]
    refine ⟨by simp [he], p, (List.getElem?_eq_some_iff.1 hd).1, (List.getElem?_eq_some_iff.1 hd).2, fun j hj => ?_⟩
    have := h2 j _ hj (List.getElem?_eq_getElem (by omega))
    simp; omega
  | false =>
    simp only [Bool.false_eq_true, if_false]
    unfold findK
    rw [List.find?_eq_none]
    intro x hx
    obtain ⟨k, hk, rfl⟩ := List.getElem_of_mem hx
    have hg : xs[k]? = some xs[k] := List.getElem?_eq_getElem hk
    rcases Nat.lt_trichotomy k p with hlt | he | hgt
    · have := h2 k _ hlt hg; simp; omega
    · subst he
      simp only [beq_iff_eq]
      intro he
      have := h4.2 ⟨_, hg, he⟩
      rw [hb] at this; cases this
    · have hp : p < xs.length := by omega
      have hpg : xs[p]? = some xs[p] := List.getElem?_eq_getElem hp
      have h5 := h3 p _ (Nat.le_refl _) hpg
      have h6 := ho.get_lt hpg hg hgt
      simp; omega
/-- What a row in order is, its place told: putting. -/
theorem putK_place {xs : List α} {p : Nat} {b : Bool} {d' : α} (h : Place key xs (key d') p b) : putK key xs d' = if b = true then xs.set p d' else xs.take p ++ [d'] ++ xs.drop p := by
  obtain ⟨h1, h2, h3, h4⟩ := h
  cases hb : b with
  | true =>
    obtain ⟨d, hd, he⟩ := h4.1 hb
    rw [if_pos rfl, putK_set h2 hd he]
  | false =>
    rw [if_neg (by decide), putK_ins h1 h2 ?_]
    intro x hx
    have h5 := h3 p x (Nat.le_refl _) hx
    have h6 : ¬ key x = key d' := fun he => by
      have := h4.2 ⟨x, hx, he⟩
      rw [hb] at this; cases this
    omega
theorem Ord.of_steps {xs : List α} (h : ∀ k x y, xs[k]? = some x → xs[k + 1]? = some y → key x < key y) : Ord key xs := by
  refine List.pairwise_iff_getElem.2 fun i j hi hj hij => ?_
  have : ∀ n i (hi : i < xs.length) (hj : i + n + 1 < xs.length), key xs[i] < key xs[i + n + 1] := by
    intro n
    induction n with
    | zero => intro i hi hj; exact h i _ _ (List.getElem?_eq_getElem hi) (List.getElem?_eq_getElem hj)
    | succ n ih =>
      intro i hi hj
      have h1 := ih i hi (by omega)
      have h2 := h (i + n + 1) _ _ (List.getElem?_eq_getElem (by omega)) (List.getElem?_eq_getElem (by omega : i + n + 1 + 1 < xs.length))
      have e : i + (n + 1) + 1 = i + n + 1 + 1 := by omega
      simp only [e]
      omega
  have h1 := this (j - i - 1) i hi (by omega)
  have e : i + (j - i - 1) + 1 = j := by omega
  simp only [e] at h1
  exact h1
end
end Go.AV
