/- The law's statement is proved here of the program as translated, whatever the input. -/
import Derived.Test.YtbigpfenlmfhgaaRows
import Derived.Test.YtbigpfenlmfhgaaX27s2
import Derived.Test.YtbigpfenlmfhgaaP27
import Derived.Test.YtbigpfenlmfhgaaAvR
import Derived.WalkKit
import Derived.SizedLaws
import Derived.Carry
namespace Go.Proofs.Ytbigpfenlmfhgaa.claimRuns
open Go.ChangeShapes Go.WideShapes Go.ChangeAt Go.RowKit Go.GV Go.AV
set_option linter.unusedVariables false
set_option linter.unusedSimpArgs false
def q_i64 (y : Int) : Prop := IntKind.i64.min ≤ y ∧ y ≤ IntKind.i64.max
def q_claim_Op (y : T_claim_Op) : Prop := (IntKind.i64.min ≤ y.Kind ∧ y.Kind ≤ IntKind.i64.max) ∧ (IntKind.i64.min ≤ y.Device ∧ y.Device ≤ IntKind.i64.max) ∧ (IntKind.i64.min ≤ y.Request ∧ y.Request ≤ IntKind.i64.max) ∧ (IntKind.i64.min ≤ y.Ticket ∧ y.Ticket ≤ IntKind.i64.max) ∧ (IntKind.i64.min ≤ y.For ∧ y.For ≤ IntKind.i64.max) ∧ (IntKind.i64.min ≤ y.Until ∧ y.Until ≤ IntKind.i64.max) ∧ (IntKind.i64.min ≤ y.Now ∧ y.Now ≤ IntKind.i64.max)
theorem o_claim_Op {H : Type} {enc : TypeId × Value → H} {w : World} {base : Nat} {spare : Nat → Bool} {held : Bool} {fuel : Nat} {cs : List Value} {x : DataW H × List MemPlace} (h : DataW.trod enc Try.prog w base spare held fuel 37 cs = some x) :
    ∃ y : T_claim_Op, cs = e_claim_Op y ∧ q_claim_Op y := by
  obtain ⟨xs, n, _, _, hl, hlen, hf⟩ := DataW.trod_struct Try.underlying37 h
  have hl : cs.length = 7 := hl.trans (by kernel_rfl)
  have hc3 : Try.prog.cellsOf 3 = 1 := by kernel_rfl
  obtain ⟨k0, k1, k2, k3, k4, k5, k6, rfl⟩ : ∃ k0 k1 k2 k3 k4 k5 k6, cs = [k0, k1, k2, k3, k4, k5, k6] := by
    rcases cs with _ | ⟨k0, _ | ⟨k1, _ | ⟨k2, _ | ⟨k3, _ | ⟨k4, _ | ⟨k5, _ | ⟨k6, _ | ⟨k, cs⟩⟩⟩⟩⟩⟩⟩⟩
    all_goals first | exact ⟨_, _, _, _, _, _, _, rfl⟩ | (simp at hl)
  obtain ⟨z0, g0⟩ := o_field hlen hf 0 _ rfl
  have g0 : DataW.trod enc Try.prog w base spare held n 3 [k0] = some z0 := by simpa [hc3] using g0
  obtain ⟨y0, e0, r0⟩ := o_int Try.underlying3 g0
  simp only [List.cons.injEq, and_true] at e0
  subst e0
  obtain ⟨z1, g1⟩ := o_field hlen hf 1 _ rfl
  have g1 : DataW.trod enc Try.prog w base spare held n 3 [k1] = some z1 := by simpa [hc3] using g1
  obtain ⟨y1, e1, r1⟩ := o_int Try.underlying3 g1
  simp only [List.cons.injEq, and_true] at e1
  subst e1
  obtain ⟨z2, g2⟩ := o_field hlen hf 2 _ rfl
  have g2 : DataW.trod enc Try.prog w base spare held n 3 [k2] = some z2 := by simpa [hc3] using g2
  obtain ⟨y2, e2, r2⟩ := o_int Try.underlying3 g2
  simp only [List.cons.injEq, and_true] at e2
  subst e2
  obtain ⟨z3, g3⟩ := o_field hlen hf 3 _ rfl
  have g3 : DataW.trod enc Try.prog w base spare held n 3 [k3] = some z3 := by simpa [hc3] using g3
  obtain ⟨y3, e3, r3⟩ := o_int Try.underlying3 g3
  simp only [List.cons.injEq, and_true] at e3
  subst e3
  obtain ⟨z4, g4⟩ := o_field hlen hf 4 _ rfl
  have g4 : DataW.trod enc Try.prog w base spare held n 3 [k4] = some z4 := by simpa [hc3] using g4
  obtain ⟨y4, e4, r4⟩ := o_int Try.underlying3 g4
  simp only [List.cons.injEq, and_true] at e4
  subst e4
  obtain ⟨z5, g5⟩ := o_field hlen hf 5 _ rfl
  have g5 : DataW.trod enc Try.prog w base spare held n 3 [k5] = some z5 := by simpa [hc3] using g5
  obtain ⟨y5, e5, r5⟩ := o_int Try.underlying3 g5
  simp only [List.cons.injEq, and_true] at e5
  subst e5
  obtain ⟨z6, g6⟩ := o_field hlen hf 6 _ rfl
  have g6 : DataW.trod enc Try.prog w base spare held n 3 [k6] = some z6 := by simpa [hc3] using g6
  obtain ⟨y6, e6, r6⟩ := o_int Try.underlying3 g6
  simp only [List.cons.injEq, and_true] at e6
  subst e6
  exact ⟨⟨y0, y1, y2, y3, y4, y5, y6⟩, rfl, ⟨r0, r1, r2, r3, r4, r5, r6⟩⟩
theorem own : ownKnob Try.prog.godebug = none := by kernel_rfl
theorem laidOut : laidOutB Try.prog = true := by kernel_rfl
set_option maxRecDepth 100000 in
theorem lifted (os : Os) (started : os.Started) (H : Type) (enc : TypeId × Value → H) :
    ReturnsInHanded {} Try.checked os 3 .any (Rows.claimRunsSpec.pre6 enc Try.prog Try.f3 Rows.claimRunsRow.domain false) (Rows.claimRunsSpec.post enc Try.prog Try.f3 false true false false) := by
  refine returnsInHanded_of_change (C := Try.checked) own started (by kernel_rfl) Try.func3
    (ChangeSpec.witness6 (enc := enc) (C := Try.checked) false ⟨#[], #[.slice none 0 0], []⟩ 8 (by kernel_rfl) (by kernel_rfl) (by kernel_rfl) (by kernel_rfl)) ?_
  intro W base args ds gs before hval0 hW hcnd _
  have hval : ∀ (j : Nat) t v, Try.f3.params[j]? = some t → args[j]? = some v → Value.okWide Try.prog W .any base t v := hval0
  have hW' := hW
  obtain ⟨p, q, hA0, hV, rfl, hfz, hnd⟩ := hW
  have hA : DataW.TrodAll enc Try.prog W 0 (fun _ => true) true Try.f3.params.toList args.toList ds p := hA0
  rw [Try.params3] at hA hval
  obtain ⟨v0, vs0, d0, ds0, p0, q0, hargs, rfl, rfl, h0, r0⟩ := trodAll_cons hA
  obtain ⟨rfl, rfl, rfl⟩ := trodAll_nil r0
  obtain rfl : args = #[v0] := by cases args; simp_all
  obtain ⟨rfl, rfl⟩ := trodVars_none hV
  obtain ⟨sa0, sm0, sc0, rfl⟩ := okWide_slice Try.underlying22 (hval 0 22 v0 rfl rfl)
  have lt0 : ∀ x ∈ p0, x.block < W.heap.size := by obtain ⟨m, hm⟩ := h0; exact DataW.trod_lt m _ _ _ hm
  obtain ⟨f0, g0⟩ := id h0
  obtain ⟨a0, m0, c0, y0, e0, hm0, hc0, _, hq0, hR0⟩ := o_row (Q := q_claim_Op) Try.underlying22 (by kernel_rfl) e_claim_Op_len (fun _ _ _ h => o_claim_Op h) g0
  simp only [Value.cells, List.cons.injEq, and_true, Value.slice.injEq] at e0
  obtain ⟨rfl, rfl, rfl⟩ := e0
  clear hA0 hval0
  refine (c_batonlaw27_ClaimRuns y0 sa0 sm0 sc0 true (claimRuns y0) W [] hm0 hc0 hR0 (Own.nil W)).mono ?_
  rintro e W' ⟨rfl, _, hE⟩
  have bel := below_of hE
  exact ⟨_, rfl, _, _, _, [], _, [], hW', trodAll_mk1 (shut_bool Try.underlying4 _), (trodAll_cons_mk (Below.trod laidOut (by kernel_rfl) (of_decide_eq_true (by kernel_rfl)) h0 bel lt0) trodAll_mk0), rfl, bel.frame _, fun h => by cases h⟩
theorem over : Rows.claimRunsRow.holds Try.pinned (OpenSpec.ofChange Rows.claimRunsSpec) :=
  OpenClaim.holds_of_wide 3 Try.f3 rfl rfl rfl rfl rfl rfl rfl ⟨rfl, rfl, rfl, rfl, rfl⟩ rfl rfl rfl rfl rfl (by kernel_rfl) Try.func3 (by kernel_rfl)
    (of_decide_eq_true (by kernel_rfl)) (by unfold Func.isWrapper; first | (rw [if_pos (by decide +kernel)]; kernel_rfl) | (rw [if_neg (by decide +kernel)]; exact ⟨rfl, rfl⟩))
    (fun os started H enc _ => lifted os started H enc)
theorem proved : Rows.ClaimRunsSaid := over
#print axioms proved
end Go.Proofs.Ytbigpfenlmfhgaa.claimRuns
