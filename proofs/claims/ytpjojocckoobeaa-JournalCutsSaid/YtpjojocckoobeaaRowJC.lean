/- The law's statement is proved here of the program as translated, whatever the input. -/
import Derived.Test.YtpjojocckoobeaaRows
import Derived.Test.YtpjojocckoobeaaLaw23
import Derived.Test.YtpjojocckoobeaaGvX
import Derived.WalkKit
import Derived.SizedLaws
import Derived.Carry
namespace Go.Proofs.Ytpjojocckoobeaa.journalCuts
open Go.ChangeShapes Go.WideShapes Go.ChangeAt Go.RowKit Go.GV
set_option linter.unusedVariables false
theorem own : ownKnob Try.prog.godebug = none := by kernel_rfl
theorem laidOut : laidOutB Try.prog = true := by kernel_rfl
set_option maxRecDepth 100000 in
theorem lifted (os : Os) (started : os.Started) (H : Type) (enc : TypeId × Value → H) :
    ReturnsInHanded {} Try.checked os 3 .any (Rows.journalCutsSpec.pre6 enc Try.prog Try.f3 Rows.journalCutsRow.domain false) (Rows.journalCutsSpec.post enc Try.prog Try.f3 false true false false) := by
  refine returnsInHanded_of_change (C := Try.checked) own started (by kernel_rfl) Try.func3
    (ChangeSpec.witness6 (enc := enc) (C := Try.checked) false ⟨#[], #[.slice none 0 0, .slice none 0 0, .agg #[.slice none 0 0, .slice none 0 0]], []⟩ 8 (by kernel_rfl) (by kernel_rfl) (by kernel_rfl) (by kernel_rfl)) ?_
  intro W base args ds gs before hval0 hW hcnd _
  have hval : ∀ (j : Nat) t v, Try.f3.params[j]? = some t → args[j]? = some v → Value.okWide Try.prog W .any base t v := hval0
  have hW' := hW
  obtain ⟨p, q, hA0, hV, rfl, hfz, hnd⟩ := hW
  have hA : DataW.TrodAll enc Try.prog W 0 (fun _ => true) true Try.f3.params.toList args.toList ds p := hA0
  rw [Try.params3] at hA hval
  obtain ⟨v0, vs0, d0, ds0, p0, q0, hargs, rfl, rfl, h0, r0⟩ := trodAll_cons hA
  obtain ⟨v1, vs1, d1, ds1, p1, q1, rfl, rfl, rfl, h1, r1⟩ := trodAll_cons r0
  obtain ⟨v2, vs2, d2, ds2, p2, q2, rfl, rfl, rfl, h2, r2⟩ := trodAll_cons r1
  obtain ⟨rfl, rfl, rfl⟩ := trodAll_nil r2
  obtain rfl : args = #[v0, v1, v2] := by cases args; simp_all
  obtain ⟨rfl, rfl⟩ := trodVars_none hV
  obtain ⟨a0, len0, cap0, rfl⟩ := okWide_slice Try.underlying22 (hval 0 22 v0 rfl rfl)
  obtain ⟨a1, len1, cap1, rfl⟩ := okWide_slice Try.underlying22 (hval 1 22 v1 rfl rfl)
  have k0 := h0
  have k1 := h1
  have k2 := h2
  have lt0 : ∀ x ∈ p0, x.block < W.heap.size := by obtain ⟨m, hm⟩ := k0; exact DataW.trod_lt m _ _ _ hm
  have lt1 : ∀ x ∈ p1, x.block < W.heap.size := by obtain ⟨m, hm⟩ := k1; exact DataW.trod_lt m _ _ _ hm
  have lt2 : ∀ x ∈ p2, x.block < W.heap.size := by obtain ⟨m, hm⟩ := k2; exact DataW.trod_lt m _ _ _ hm
  obtain ⟨f0, g0⟩ := h0
  obtain ⟨f1, g1⟩ := h1
  obtain ⟨f2, g2⟩ := h2
  obtain ⟨b0, n0, c0, vs0, bss0, e0, l0, _, _, R0, A0⟩ := op_rows Try.underlying22 Try.underlying33 Try.underlying5 (by kernel_rfl) (by kernel_rfl) g0
  obtain ⟨b1, n1, c1, vs1, bss1, e1, l1, hc1, _, R1, A1⟩ := op_rows Try.underlying22 Try.underlying33 Try.underlying5 (by kernel_rfl) (by kernel_rfl) g1
  obtain ⟨u0, u1, f3, x0, x1, e2, g3, g4⟩ := op_arr2 Try.underlying24 (by kernel_rfl) (by kernel_rfl) g2
  obtain ⟨b3, n3, c3, ns3, e3, l3, _, _, w3, R3⟩ := op_ints Try.underlying23 Try.underlying3 (by kernel_rfl) g3
  obtain ⟨b4, n4, c4, ns4, e4, l4, _, _, w4, R4⟩ := op_ints Try.underlying23 Try.underlying3 (by kernel_rfl) g4
  simp only [List.cons.injEq, and_true] at e3 e4
  subst e3; subst e4
  obtain rfl := cells_two e2
  simp only [Value.cells, List.cons.injEq, and_true, Value.slice.injEq] at e0 e1
  obtain ⟨rfl, rfl, rfl⟩ := e0
  obtain ⟨rfl, rfl, rfl⟩ := e1
  subst l0; subst l1; subst l3; subst l4
  rw [← fl_eI] at R3 R4
  clear hA0 hval0
  refine (law23_JournalCuts a0 cap0 vs0 bss0 a1 cap1 vs1 bss1 hc1 b3 c3 ns3 b4 c4 ns4 (fun x hx => (w3 x hx).2) W [] R0 A0 R1 A1 R3 R4 (Own.nil W)).mono ?_
  rintro e W' ⟨rfl, L', _, hE⟩
  have bel := below_of hE
  exact ⟨_, rfl, _, _, _, [], _, [], hW', trodAll_mk1 (shut_bool Try.underlying4 _), (trodAll_cons_mk (Below.trod laidOut (by kernel_rfl) (of_decide_eq_true (by kernel_rfl)) k0 bel lt0) (trodAll_cons_mk (Below.trod laidOut (by kernel_rfl) (of_decide_eq_true (by kernel_rfl)) k1 bel lt1) (trodAll_cons_mk (Below.trod laidOut (by kernel_rfl) (of_decide_eq_true (by kernel_rfl)) k2 bel lt2) trodAll_mk0))), rfl, bel.frame _, fun h => by cases h⟩
theorem over : Rows.journalCutsRow.holds Try.pinned (OpenSpec.ofChange Rows.journalCutsSpec) :=
  OpenClaim.holds_of_wide 3 Try.f3 rfl rfl rfl rfl rfl rfl rfl ⟨rfl, rfl, rfl, rfl, rfl⟩ rfl rfl rfl rfl rfl (by kernel_rfl) Try.func3 (by kernel_rfl)
    (of_decide_eq_true (by kernel_rfl)) (by unfold Func.isWrapper; first | (rw [if_pos (by decide +kernel)]; kernel_rfl) | (rw [if_neg (by decide +kernel)]; exact ⟨rfl, rfl⟩))
    (fun os started H enc _ => lifted os started H enc)
theorem proved : Rows.JournalCutsSaid := over
#print axioms proved
end Go.Proofs.Ytpjojocckoobeaa.journalCuts
