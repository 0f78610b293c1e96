/- A part of the proof that the row of the law holds of the program as translated: lemmas and contracts of its functions. -/
import Derived.Test.YtbigpfenlmfhgaaGvX
import Derived.Test.YtbigpfenlmfhgaaAvO
import Derived.SizedLaws
import Derived.DataReads
import Derived.Carry
set_option linter.unusedVariables false
set_option linter.unusedSimpArgs false
namespace Go.AV
open Go.GV Go.ChangeShapes Go.WideShapes Go.ChangeAt Go.RowKit
/-! ### What the arguments of a statement are: openers over the plain types of these proofs -/
section
variable {H : Type} {enc : TypeId × Value → H} {P : Program} {w : World} {base : Nat} {spare : Nat → Bool} {held : Bool}
theorem o_int {t : TypeId} {k : IntKind} {fuel : Nat} {cs : List Value} {x : DataW H × List MemPlace} (ht : P.underlying t = some (.int k)) (h : DataW.trod enc P w base spare held fuel t cs = some x) :
    ∃ n : Int, cs = [.int k n] ∧ k.min ≤ n ∧ n ≤ k.max := by
  cases fuel with
  | zero => simp [DataW.trod] at h
  | succ m =>
    unfold DataW.trod at h
    rw [ht] at h
    rcases cs with _ | ⟨c, _ | ⟨c', cs⟩⟩ <;> simp at h
    cases c <;> simp at h
    obtain ⟨⟨rfl, hw⟩, rfl⟩ := h
    exact ⟨_, rfl, by simpa [Lit.wf] using hw⟩
theorem o_bool {t : TypeId} {fuel : Nat} {cs : List Value} {x : DataW H × List MemPlace} (ht : P.underlying t = some .bool) (h : DataW.trod enc P w base spare held fuel t cs = some x) :
    ∃ b : Bool, cs = [.bool b] := by
  cases fuel with
  | zero => simp [DataW.trod] at h
  | succ m =>
    unfold DataW.trod at h
    rw [ht] at h
    rcases cs with _ | ⟨c, _ | ⟨c', cs⟩⟩ <;> simp at h
    cases c <;> simp at h
    exact ⟨_, rfl⟩
/-- a row of elements that are told by `e` -/
theorem o_row {α : Type} {e : α → List Value} {n : Nat} {Q : α → Prop} {t el : TypeId} {fuel : Nat} {cs : List Value} {x : DataW H × List MemPlace} (ht : P.underlying t = some (.slice el)) (hn : P.cellsOf el = n) (hl : ∀ y, (e y).length = n)
    (hel : ∀ (fuel : Nat) (cs : List Value) (x : DataW H × List MemPlace), DataW.trod enc P w base spare held fuel el cs = some x → ∃ y, cs = e y ∧ Q y)
    (h : DataW.trod enc P w base spare held fuel t cs = some x) :
    ∃ (a : Option Addr) (m c : Nat) (ys : List α), cs = [.slice a m c] ∧ ys.length = m ∧ m ≤ c ∧ c ≤ maxLen ∧ (∀ y ∈ ys, Q y) ∧ Rd w [] a (fl e ys) := by
  rcases DataW.trod_slice ht h with ⟨rfl, _⟩ | ⟨a, len, cap, elems, rest, m, _, rfl, _, _, hle, hmx, hlen, hels, _, _⟩
  · exact ⟨none, 0, 0, [], rfl, rfl, Nat.le_refl _, by decide, by simp, Rd.nil _ _ _⟩
  · have each : ∀ i, i < len → ∃ y, w.cells? base (a.add (i * n)) n = some (e y) ∧ Q y := by
      intro i hi
      have h1 := hels i hi
      rw [List.getElem?_eq_getElem (by omega), hn, Option.bind_eq_some_iff] at h1
      obtain ⟨cs', hcs, hy⟩ := h1
      obtain ⟨y, rfl, hq⟩ := hel _ _ _ hy
      exact ⟨y, hcs, hq⟩
    have all : ∀ k, k ≤ len → ∃ ys : List α, ys.length = k ∧ (∀ y ∈ ys, Q y) ∧ ∀ i u, (fl e ys)[i]? = some u → w.cell? (a.add i) = some u := by
      intro k
      induction k with
      | zero => intro _; exact ⟨[], rfl, by simp, fun i u h => by simp [fl] at h⟩
      | succ k ih =>
        intro hk
        obtain ⟨ys, h1, h2, h3⟩ := ih (by omega)
        obtain ⟨y, h4, h5⟩ := each k (by omega)
        refine ⟨ys ++ [y], by rw [List.length_append, h1]; rfl, ?_, fun i u hu => ?_⟩
        · intro z hz
          rcases List.mem_append.1 hz with hz | hz
          · exact h2 z hz
          · simp at hz; subst hz; exact h5
        · have hfl : (fl e ys).length = k * n := by
            rw [← h1]
            clear h1 h2 h3 hu hk ih
            induction ys with
            | nil => simp [fl]
            | cons y ys ih => rw [fl_cons, List.length_append, ih, hl, List.length_cons, Nat.add_mul]; omega
          rw [fl_app, fl_one] at hu
          rcases Nat.lt_or_ge i (fl e ys).length with hlt | hge
          · rw [List.getElem?_append_left hlt] at hu
            exact h3 i u hu
          · rw [List.getElem?_append_right hge, hfl] at hu
            have hi := (List.getElem?_eq_some_iff.1 hu).1
            rw [hl] at hi
            rw [hfl] at hge
            have := (World.cells?_some h4).2.2 (i - k * n) (by omega)
            rw [GV.add_add, show k * n + (i - k * n) = i by omega, hu] at this
            exact this
    obtain ⟨ys, h1, h2, h3⟩ := all len (Nat.le_refl _)
    exact ⟨some a, len, cap, ys, rfl, h1, hle, hmx, h2, rd0 h3⟩
/-- a field of a struct -/
theorem o_field {fs : Array Field} {n : Nat} {cs : List Value} {xs : List (DataW H × List MemPlace)} (hlen : xs.length = fs.size)
    (hf : ∀ (i : Nat) (f : Field), fs[i]? = some f → DataW.trod enc P w base spare held n f.type (List.take (P.cellsOf f.type) (List.drop f.offset cs)) = xs[i]?)
    (i : Nat) (f : Field) (h : fs[i]? = some f) : ∃ x, DataW.trod enc P w base spare held n f.type (List.take (P.cellsOf f.type) (List.drop f.offset cs)) = some x := by
  have hi : i < xs.length := by rw [hlen]; exact (Array.getElem?_eq_some_iff.1 h).1
  exact ⟨xs[i], by rw [hf i f h, List.getElem?_eq_getElem hi]⟩
end
/-- a value of several cells -/
theorem agg_of {P : Program} {W : World} {r : Reach} {base : Nat} {t : TypeId} {v : Value} {cs : List Value} {fs : Array Field} (ht : P.underlying t = some (.struct fs)) (h : Value.okWide P W r base t v) (hc : v.cells.toList = cs) : v = .agg cs.toArray := by
  unfold Value.okWide at h
  rw [ht] at h
  obtain ⟨a, rfl, _⟩ := h
  simp only [Value.cells] at hc
  rw [← hc]
end Go.AV
