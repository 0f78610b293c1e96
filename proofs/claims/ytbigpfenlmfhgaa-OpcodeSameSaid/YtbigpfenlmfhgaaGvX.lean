/- A part of the proof that the row of the law holds of the program as translated: lemmas and contracts of its functions. -/
import Derived.Test.YtbigpfenlmfhgaaGvW
import Derived.ProofKit
import Derived.OpenShut
import Derived.Below
import Derived.ChangeSlices
import Derived.ShutString
import Derived.ChangeOld
set_option linter.unusedVariables false
set_option linter.unusedSimpArgs false
namespace Go.GV
open Go.ChangeShapes Go.WideShapes Go.ChangeAt Go.RowKit
/-! ### 23. What the arguments of a statement are, read as these proofs read memory -/
section
variable {H : Type} {enc : TypeId × Value → H} {P : Program} {w : World} {base : Nat} {spare : Nat → Bool} {held : Bool}
theorem rd0 {w : World} {a : Addr} {cs : List Value} (h : ∀ i u, cs[i]? = some u → w.cell? (a.add i) = some u) : Rd w [] (some a) cs := .inr ⟨a, rfl, by simp [ks], h⟩
/-- ints -/
theorem op_ints {t e : TypeId} {k : IntKind} {fuel : Nat} {cs : List Value} {x : DataW H × List MemPlace} (ht : P.underlying t = some (.slice e)) (he : P.underlying e = some (.int k)) (hc : P.cellsOf e = 1)
    (h : DataW.trod enc P w base spare held fuel t cs = some x) :
    ∃ (a : Option Addr) (m c : Nat) (ns : List Int), cs = [.slice a m c] ∧ ns.length = m ∧ m ≤ c ∧ c ≤ maxLen ∧ (∀ n ∈ ns, k.min ≤ n ∧ n ≤ k.max) ∧ Rd w [] a (ns.map (Value.int k)) := by
  rcases Go.ChangeShapes.open_ints ht he hc h with ⟨rfl, rfl⟩ | ⟨a, len, cap, zs, rfl, _, hl, hm, hz, hx, hcell, hw⟩
  · exact ⟨none, 0, 0, [], rfl, rfl, Nat.le_refl _, by decide, fun n h => by simp at h, Rd.nil _ _ _⟩
  · have hlz : len ≤ zs.length := by rw [hz]; split <;> omega
    refine ⟨some a, len, cap, zs.take len, rfl, by rw [List.length_take]; omega, hl, hm, fun n hn => ?_, rd0 fun i u hu => ?_⟩
    · have := hw n (List.mem_of_mem_take hn)
      simpa [Lit.wf] using this
    · rw [List.getElem?_map, Option.map_eq_some_iff] at hu
      obtain ⟨n, hn, rfl⟩ := hu
      have hi := (List.getElem?_eq_some_iff.1 hn).1
      rw [List.length_take] at hi
      rw [hcell i (by omega)]
      rw [List.getElem?_take_of_lt (by omega)] at hn
      simp [List.getD_eq_getElem?_getD, hn]
theorem bytes_of {ns : List Int} (h : ∀ n ∈ ns, IntKind.u8.min ≤ n ∧ n ≤ IntKind.u8.max) : ns.map (Value.int .u8) = fl eB (ns.map fun n => UInt8.ofNat n.toNat) := by
  rw [fl_eB, List.map_map]
  refine List.map_congr_left fun n hn => ?_
  have := h n hn
  simp only [IntKind.min, IntKind.max, IntKind.signed, IntKind.bits] at this
  simp only [Function.comp_apply, Value.int.injEq, true_and]
  have h1 : (UInt8.ofNat n.toNat).toNat = n.toNat := by simp; simp at this; omega
  rw [h1]
  simp at this
  omega
theorem op_bytes {t e : TypeId} {fuel : Nat} {cs : List Value} {x : DataW H × List MemPlace} (ht : P.underlying t = some (.slice e)) (he : P.underlying e = some (.int .u8)) (hc : P.cellsOf e = 1)
    (h : DataW.trod enc P w base spare held fuel t cs = some x) : ∃ (v : Value) (bs : List UInt8), cs = [v] ∧ RdB w [] v bs := by
  obtain ⟨a, m, c, ns, rfl, h1, h2, _, h3, h4⟩ := op_ints ht he hc h
  rw [bytes_of h3] at h4
  exact ⟨_, ns.map fun n => UInt8.ofNat n.toNat, rfl, a, c, by rw [List.length_map, h1], h4, by rw [List.length_map, h1]; exact h2⟩
/-- rows of bytes -/
theorem op_rows {t e b : TypeId} {fuel : Nat} {cs : List Value} {x : DataW H × List MemPlace} (ht : P.underlying t = some (.slice e)) (he : P.underlying e = some (.slice b)) (hb : P.underlying b = some (.int .u8)) (hce : P.cellsOf e = 1) (hcb : P.cellsOf b = 1)
    (h : DataW.trod enc P w base spare held fuel t cs = some x) :
    ∃ (a : Option Addr) (m c : Nat) (vs : List Value) (bss : List (List UInt8)), cs = [.slice a m c] ∧ bss.length = m ∧ m ≤ c ∧ c ≤ maxLen ∧ Rd w [] a (fl eS vs) ∧ RdAll w [] vs bss := by
  rcases DataW.trod_slice ht h with ⟨rfl, _⟩ | ⟨a, len, cap, elems, rest, n, _, rfl, _, _, hl, hm, hlen, hel, _, _⟩
  · exact ⟨none, 0, 0, [], [], rfl, rfl, Nat.le_refl _, by decide, Rd.nil _ _ _, RdAll.nil _ _⟩
  · have each : ∀ i, i < len → ∃ v bs, w.cell? (a.add i) = some v ∧ RdB w [] v bs := by
      intro i hi
      have h1 := hel i hi
      rw [List.getElem?_eq_getElem (by omega), hce, Nat.mul_one, Option.bind_eq_some_iff] at h1
      obtain ⟨cs', hcs, hy⟩ := h1
      obtain ⟨v, bs, rfl, hv⟩ := op_bytes he hb hcb hy
      exact ⟨v, bs, cell_of_cells?_one hcs, hv⟩
    have all : ∀ k, k ≤ len → ∃ vs bss, vs.length = k ∧ RdAll w [] vs bss ∧ ∀ i u, vs[i]? = some u → w.cell? (a.add i) = some u := by
      intro k
      induction k with
      | zero => intro _; exact ⟨[], [], rfl, RdAll.nil _ _, fun i u h => by simp at h⟩
      | succ k ih =>
        intro hk
        obtain ⟨vs, bss, h1, h2, h3⟩ := ih (by omega)
        obtain ⟨v, bs, h4, h5⟩ := each k (by omega)
        refine ⟨vs ++ [v], bss ++ [bs], by rw [List.length_append, h1]; rfl, h2.snoc h5, fun i u hu => ?_⟩
        rcases Nat.lt_or_ge i vs.length with hlt | hge
        · rw [List.getElem?_append_left hlt] at hu
          exact h3 i u hu
        · rw [List.getElem?_append_right hge] at hu
          have hi := (List.getElem?_eq_some_iff.1 hu).1
          simp only [List.length_singleton] at hi
          obtain rfl : i = vs.length := by omega
          rw [Nat.sub_self] at hu
          simp at hu
          subst hu
          rw [h1]; exact h4
    obtain ⟨vs, bss, h1, h2, h3⟩ := all len (Nat.le_refl _)
    exact ⟨some a, len, cap, vs, bss, rfl, by rw [← h2.1, h1], hl, hm, by rw [fl_eS]; exact rd0 h3, h2⟩
theorem op_arr2 {t e : TypeId} {fuel : Nat} {cs : List Value} {x : DataW H × List MemPlace} (ht : P.underlying t = some (.array 2 e)) (hct : P.cellsOf t = 2) (hce : P.cellsOf e = 1) (h : DataW.trod enc P w base spare held fuel t cs = some x) :
    ∃ c0 c1 m x0 x1, cs = [c0, c1] ∧ DataW.trod enc P w base spare held m e [c0] = some x0 ∧ DataW.trod enc P w base spare held m e [c1] = some x1 := by
  obtain ⟨xs, m, _, _, hl, hn, hel⟩ := DataW.trod_array ht h
  rw [hct] at hl
  rcases cs with _ | ⟨c0, _ | ⟨c1, _ | ⟨c2, cs⟩⟩⟩ <;> simp at hl
  have h0 := hel 0 (by decide)
  have h1 := hel 1 (by decide)
  rw [hce] at h0 h1
  rw [List.getElem?_eq_getElem (by omega)] at h0 h1
  exact ⟨c0, c1, m, _, _, rfl, by simpa using h0, by simpa using h1⟩
theorem cells_two {v c0 c1 : Value} (h : v.cells.toList = [c0, c1]) : v = .agg #[c0, c1] := by
  cases v with
  | agg cs =>
    simp only [Value.cells] at h
    rw [show cs = cs.toList.toArray by simp, h]
  | _ => simp [Value.cells] at h
theorem below_of {w w' : World} {L' : Hp} (e : Ext w [] w' L') : Below w.heap.size w w' := ⟨e.os, e.tape, e.output, e.size, fun b hb => e.keep b hb (by simp [ks])⟩
end
end Go.GV
