/- The law's statement is proved here of the program as translated, whatever the input. -/
import Derived.Test.YtbigpfenlmfhgaaRows
import Derived.Test.YtbigpfenlmfhgaaX28
import Derived.Test.YtbigpfenlmfhgaaP28
import Derived.Test.YtbigpfenlmfhgaaAvR
import Derived.WalkKit
import Derived.SizedLaws
import Derived.Carry
namespace Go.Proofs.Ytbigpfenlmfhgaa.opcodeSame
open Go.ChangeShapes Go.WideShapes Go.ChangeAt Go.RowKit Go.GV Go.AV
set_option linter.unusedVariables false
set_option linter.unusedSimpArgs false
def q_i64 (y : Int) : Prop := IntKind.i64.min ≤ y ∧ y ≤ IntKind.i64.max
def q_roster_Device (y : T_roster_Device) : Prop := (IntKind.i64.min ≤ y.Id ∧ y.Id ≤ IntKind.i64.max) ∧ (IntKind.i64.min ≤ y.Times ∧ y.Times ≤ IntKind.i64.max) ∧ (IntKind.i64.min ≤ y.Last ∧ y.Last ≤ IntKind.i64.max)
theorem o_roster_Device {H : Type} {enc : TypeId × Value → H} {w : World} {base : Nat} {spare : Nat → Bool} {held : Bool} {fuel : Nat} {cs : List Value} {x : DataW H × List MemPlace} (h : DataW.trod enc Try.prog w base spare held fuel 56 cs = some x) :
    ∃ y : T_roster_Device, cs = e_roster_Device y ∧ q_roster_Device y := by
  obtain ⟨xs, n, _, _, hl, hlen, hf⟩ := DataW.trod_struct Try.underlying56 h
  have hl : cs.length = 4 := hl.trans (by kernel_rfl)
  have hc3 : Try.prog.cellsOf 3 = 1 := by kernel_rfl
  have hc4 : Try.prog.cellsOf 4 = 1 := by kernel_rfl
  obtain ⟨k0, k1, k2, k3, rfl⟩ : ∃ k0 k1 k2 k3, cs = [k0, k1, k2, k3] := by
    rcases cs with _ | ⟨k0, _ | ⟨k1, _ | ⟨k2, _ | ⟨k3, _ | ⟨k, cs⟩⟩⟩⟩⟩
    all_goals first | exact ⟨_, _, _, _, rfl⟩ | (simp at hl)
  obtain ⟨z0, g0⟩ := o_field hlen hf 0 _ rfl
  have g0 : DataW.trod enc Try.prog w base spare held n 3 [k0] = some z0 := by simpa [hc3] using g0
  obtain ⟨y0, e0, r0⟩ := o_int Try.underlying3 g0
  simp only [List.cons.injEq, and_true] at e0
  subst e0
  obtain ⟨z1, g1⟩ := o_field hlen hf 1 _ rfl
  have g1 : DataW.trod enc Try.prog w base spare held n 3 [k1] = some z1 := by simpa [hc3] using g1
  obtain ⟨y1, e1, r1⟩ := o_int Try.underlying3 g1
  simp only [List.cons.injEq, and_true] at e1
  subst e1
  obtain ⟨z2, g2⟩ := o_field hlen hf 2 _ rfl
  have g2 : DataW.trod enc Try.prog w base spare held n 4 [k2] = some z2 := by simpa [hc4] using g2
  obtain ⟨y2, e2⟩ := o_bool Try.underlying4 g2
  simp only [List.cons.injEq, and_true] at e2
  subst e2
  obtain ⟨z3, g3⟩ := o_field hlen hf 3 _ rfl
  have g3 : DataW.trod enc Try.prog w base spare held n 3 [k3] = some z3 := by simpa [hc3] using g3
  obtain ⟨y3, e3, r3⟩ := o_int Try.underlying3 g3
  simp only [List.cons.injEq, and_true] at e3
  subst e3
  exact ⟨⟨y0, y1, y2, y3⟩, rfl, ⟨r0, r1, r3⟩⟩
def q_ticket_Ticket (y : T_ticket_Ticket) : Prop := (IntKind.i64.min ≤ y.No ∧ y.No ≤ IntKind.i64.max) ∧ (IntKind.i64.min ≤ y.For ∧ y.For ≤ IntKind.i64.max) ∧ (IntKind.i64.min ≤ y.Until ∧ y.Until ≤ IntKind.i64.max)
theorem o_ticket_Ticket {H : Type} {enc : TypeId × Value → H} {w : World} {base : Nat} {spare : Nat → Bool} {held : Bool} {fuel : Nat} {cs : List Value} {x : DataW H × List MemPlace} (h : DataW.trod enc Try.prog w base spare held fuel 59 cs = some x) :
    ∃ y : T_ticket_Ticket, cs = e_ticket_Ticket y ∧ q_ticket_Ticket y := by
  obtain ⟨xs, n, _, _, hl, hlen, hf⟩ := DataW.trod_struct Try.underlying59 h
  have hl : cs.length = 3 := hl.trans (by kernel_rfl)
  have hc3 : Try.prog.cellsOf 3 = 1 := by kernel_rfl
  obtain ⟨k0, k1, k2, rfl⟩ : ∃ k0 k1 k2, cs = [k0, k1, k2] := by
    rcases cs with _ | ⟨k0, _ | ⟨k1, _ | ⟨k2, _ | ⟨k, cs⟩⟩⟩⟩
    all_goals first | exact ⟨_, _, _, rfl⟩ | (simp at hl)
  obtain ⟨z0, g0⟩ := o_field hlen hf 0 _ rfl
  have g0 : DataW.trod enc Try.prog w base spare held n 3 [k0] = some z0 := by simpa [hc3] using g0
  obtain ⟨y0, e0, r0⟩ := o_int Try.underlying3 g0
  simp only [List.cons.injEq, and_true] at e0
  subst e0
  obtain ⟨z1, g1⟩ := o_field hlen hf 1 _ rfl
  have g1 : DataW.trod enc Try.prog w base spare held n 3 [k1] = some z1 := by simpa [hc3] using g1
  obtain ⟨y1, e1, r1⟩ := o_int Try.underlying3 g1
  simp only [List.cons.injEq, and_true] at e1
  subst e1
  obtain ⟨z2, g2⟩ := o_field hlen hf 2 _ rfl
  have g2 : DataW.trod enc Try.prog w base spare held n 3 [k2] = some z2 := by simpa [hc3] using g2
  obtain ⟨y2, e2, r2⟩ := o_int Try.underlying3 g2
  simp only [List.cons.injEq, and_true] at e2
  subst e2
  exact ⟨⟨y0, y1, y2⟩, rfl, ⟨r0, r1, r2⟩⟩
def q_claim_State (y : T_claim_State) : Prop := (IntKind.i64.min ≤ y.Epoch ∧ y.Epoch ≤ IntKind.i64.max) ∧ (IntKind.i64.min ≤ y.Owner ∧ y.Owner ≤ IntKind.i64.max) ∧ (IntKind.i64.min ≤ y.Next ∧ y.Next ≤ IntKind.i64.max)
theorem o_claim_State {H : Type} {enc : TypeId × Value → H} {w : World} {base : Nat} {spare : Nat → Bool} {held : Bool} {fuel : Nat} {cs : List Value} {x : DataW H × List MemPlace} (h : DataW.trod enc Try.prog w base spare held fuel 27 cs = some x) :
    ∃ (y : T_claim_State) (a0 : Option Addr) (m0 c0 : Nat) (a1 : Option Addr) (m1 c1 : Nat), cs = [.int .i64 y.Epoch, .int .i64 y.Owner, .int .i64 y.Next, .slice a0 m0 c0, .slice a1 m1 c1] ∧ q_claim_State y ∧ y.Roster.length = m0 ∧ m0 ≤ c0 ∧ c0 ≤ maxLen ∧ (∀ z ∈ y.Roster, q_roster_Device z) ∧ Rd w [] a0 (fl e_roster_Device y.Roster) ∧ y.Tickets.length = m1 ∧ m1 ≤ c1 ∧ c1 ≤ maxLen ∧ (∀ z ∈ y.Tickets, q_ticket_Ticket z) ∧ Rd w [] a1 (fl e_ticket_Ticket y.Tickets) := by
  obtain ⟨xs, n, _, _, hl, hlen, hf⟩ := DataW.trod_struct Try.underlying27 h
  have hl : cs.length = 5 := hl.trans (by kernel_rfl)
  have hc3 : Try.prog.cellsOf 3 = 1 := by kernel_rfl
  have hc24 : Try.prog.cellsOf 24 = 1 := by kernel_rfl
  have hc25 : Try.prog.cellsOf 25 = 1 := by kernel_rfl
  obtain ⟨k0, k1, k2, k3, k4, rfl⟩ : ∃ k0 k1 k2 k3 k4, cs = [k0, k1, k2, k3, k4] := by
    rcases cs with _ | ⟨k0, _ | ⟨k1, _ | ⟨k2, _ | ⟨k3, _ | ⟨k4, _ | ⟨k, cs⟩⟩⟩⟩⟩⟩
    all_goals first | exact ⟨_, _, _, _, _, rfl⟩ | (simp at hl)
  obtain ⟨z0, g0⟩ := o_field hlen hf 0 _ rfl
  have g0 : DataW.trod enc Try.prog w base spare held n 3 [k0] = some z0 := by simpa [hc3] using g0
  obtain ⟨y0, e0, r0⟩ := o_int Try.underlying3 g0
  simp only [List.cons.injEq, and_true] at e0
  subst e0
  obtain ⟨z1, g1⟩ := o_field hlen hf 1 _ rfl
  have g1 : DataW.trod enc Try.prog w base spare held n 3 [k1] = some z1 := by simpa [hc3] using g1
  obtain ⟨y1, e1, r1⟩ := o_int Try.underlying3 g1
  simp only [List.cons.injEq, and_true] at e1
  subst e1
  obtain ⟨z2, g2⟩ := o_field hlen hf 2 _ rfl
  have g2 : DataW.trod enc Try.prog w base spare held n 3 [k2] = some z2 := by simpa [hc3] using g2
  obtain ⟨y2, e2, r2⟩ := o_int Try.underlying3 g2
  simp only [List.cons.injEq, and_true] at e2
  subst e2
  obtain ⟨z3, g3⟩ := o_field hlen hf 3 _ rfl
  have g3 : DataW.trod enc Try.prog w base spare held n 24 [k3] = some z3 := by simpa [hc24] using g3
  obtain ⟨a3, m3, c3, y3, e3, u3, v3, w3, p3, s3⟩ := o_row (Q := q_roster_Device) Try.underlying24 (by kernel_rfl) e_roster_Device_len (fun _ _ _ h => o_roster_Device h) g3
  simp only [List.cons.injEq, and_true] at e3
  subst e3
  obtain ⟨z4, g4⟩ := o_field hlen hf 4 _ rfl
  have g4 : DataW.trod enc Try.prog w base spare held n 25 [k4] = some z4 := by simpa [hc25] using g4
  obtain ⟨a4, m4, c4, y4, e4, u4, v4, w4, p4, s4⟩ := o_row (Q := q_ticket_Ticket) Try.underlying25 (by kernel_rfl) e_ticket_Ticket_len (fun _ _ _ h => o_ticket_Ticket h) g4
  simp only [List.cons.injEq, and_true] at e4
  subst e4
  exact ⟨⟨y0, y1, y2, y3, y4⟩, a3, m3, c3, a4, m4, c4, rfl, ⟨r0, r1, r2⟩, u3, v3, w3, p3, s3, u4, v4, w4, p4, s4⟩
def q_claim_Op (y : T_claim_Op) : Prop := (IntKind.i64.min ≤ y.Kind ∧ y.Kind ≤ IntKind.i64.max) ∧ (IntKind.i64.min ≤ y.Device ∧ y.Device ≤ IntKind.i64.max) ∧ (IntKind.i64.min ≤ y.Request ∧ y.Request ≤ IntKind.i64.max) ∧ (IntKind.i64.min ≤ y.Ticket ∧ y.Ticket ≤ IntKind.i64.max) ∧ (IntKind.i64.min ≤ y.For ∧ y.For ≤ IntKind.i64.max) ∧ (IntKind.i64.min ≤ y.Until ∧ y.Until ≤ IntKind.i64.max) ∧ (IntKind.i64.min ≤ y.Now ∧ y.Now ≤ IntKind.i64.max)
theorem o_claim_Op {H : Type} {enc : TypeId × Value → H} {w : World} {base : Nat} {spare : Nat → Bool} {held : Bool} {fuel : Nat} {cs : List Value} {x : DataW H × List MemPlace} (h : DataW.trod enc Try.prog w base spare held fuel 37 cs = some x) :
    ∃ y : T_claim_Op, cs = e_claim_Op y ∧ q_claim_Op y := by
  obtain ⟨xs, n, _, _, hl, hlen, hf⟩ := DataW.trod_struct Try.underlying37 h
  have hl : cs.length = 7 := hl.trans (by kernel_rfl)
  have hc3 : Try.prog.cellsOf 3 = 1 := by kernel_rfl
  obtain ⟨k0, k1, k2, k3, k4, k5, k6, rfl⟩ : ∃ k0 k1 k2 k3 k4 k5 k6, cs = [k0, k1, k2, k3, k4, k5, k6] := by
    rcases cs with _ | ⟨k0, _ | ⟨k1, _ | ⟨k2, _ | ⟨k3, _ | ⟨k4, _ | ⟨k5, _ | ⟨k6, _ | ⟨k, cs⟩⟩⟩⟩⟩⟩⟩⟩
    all_goals first | exact ⟨_, _, _, _, _, _, _, rfl⟩ | (simp at hl)
  obtain ⟨z0, g0⟩ := o_field hlen hf 0 _ rfl
  have g0 : DataW.trod enc Try.prog w base spare held n 3 [k0] = some z0 := by simpa [hc3] using g0
  obtain ⟨y0, e0, r0⟩ := o_int Try.underlying3 g0
  simp only [List.cons.injEq, and_true] at e0
  subst e0
  obtain ⟨z1, g1⟩ := o_field hlen hf 1 _ rfl
  have g1 : DataW.trod enc Try.prog w base spare held n 3 [k1] = some z1 := by simpa [hc3] using g1
  obtain ⟨y1, e1, r1⟩ := o_int Try.underlying3 g1
  simp only [List.cons.injEq, and_true] at e1
  subst e1
  obtain ⟨z2, g2⟩ := o_field hlen hf 2 _ rfl
  have g2 : DataW.trod enc Try.prog w base spare held n 3 [k2] = some z2 := by simpa [hc3] using g2
  obtain ⟨y2, e2, r2⟩ := o_int Try.underlying3 g2
  simp only [List.cons.injEq, and_true] at e2
  subst e2
  obtain ⟨z3, g3⟩ := o_field hlen hf 3 _ rfl
  have g3 : DataW.trod enc Try.prog w base spare held n 3 [k3] = some z3 := by simpa [hc3] using g3
  obtain ⟨y3, e3, r3⟩ := o_int Try.underlying3 g3
  simp only [List.cons.injEq, and_true] at e3
  subst e3
  obtain ⟨z4, g4⟩ := o_field hlen hf 4 _ rfl
  have g4 : DataW.trod enc Try.prog w base spare held n 3 [k4] = some z4 := by simpa [hc3] using g4
  obtain ⟨y4, e4, r4⟩ := o_int Try.underlying3 g4
  simp only [List.cons.injEq, and_true] at e4
  subst e4
  obtain ⟨z5, g5⟩ := o_field hlen hf 5 _ rfl
  have g5 : DataW.trod enc Try.prog w base spare held n 3 [k5] = some z5 := by simpa [hc3] using g5
  obtain ⟨y5, e5, r5⟩ := o_int Try.underlying3 g5
  simp only [List.cons.injEq, and_true] at e5
  subst e5
  obtain ⟨z6, g6⟩ := o_field hlen hf 6 _ rfl
  have g6 : DataW.trod enc Try.prog w base spare held n 3 [k6] = some z6 := by simpa [hc3] using g6
  obtain ⟨y6, e6, r6⟩ := o_int Try.underlying3 g6
  simp only [List.cons.injEq, and_true] at e6
  subst e6
  exact ⟨⟨y0, y1, y2, y3, y4, y5, y6⟩, rfl, ⟨r0, r1, r2, r3, r4, r5, r6⟩⟩
theorem own : ownKnob Try.prog.godebug = none := by kernel_rfl
theorem laidOut : laidOutB Try.prog = true := by kernel_rfl
set_option maxRecDepth 100000 in
theorem lifted (os : Os) (started : os.Started) (H : Type) (enc : TypeId × Value → H) :
    ReturnsInHanded {} Try.checked os 6 .any (Rows.opcodeSameSpec.pre6 enc Try.prog Try.f6 Rows.opcodeSameRow.domain false) (Rows.opcodeSameSpec.post enc Try.prog Try.f6 false true false false) := by
  refine returnsInHanded_of_change (C := Try.checked) own started (by kernel_rfl) Try.func6
    (ChangeSpec.witness6 (enc := enc) (C := Try.checked) false ⟨#[], #[(.agg #[(.int .i64 0), (.int .i64 0), (.int .i64 0), (.slice none 0 0), (.slice none 0 0)]), (.agg #[(.int .i64 0), (.int .i64 0), (.int .i64 0), (.int .i64 0), (.int .i64 0), (.int .i64 0), (.int .i64 0)])], []⟩ 8 (by kernel_rfl) (by kernel_rfl) (by kernel_rfl) (by kernel_rfl)) ?_
  intro W base args ds gs before hval0 hW hcnd _
  have hval : ∀ (j : Nat) t v, Try.f6.params[j]? = some t → args[j]? = some v → Value.okWide Try.prog W .any base t v := hval0
  have hW' := hW
  obtain ⟨p, q, hA0, hV, rfl, hfz, hnd⟩ := hW
  have hA : DataW.TrodAll enc Try.prog W 0 (fun _ => true) true Try.f6.params.toList args.toList ds p := hA0
  rw [Try.params6] at hA hval
  obtain ⟨v0, vs0, d0, ds0, p0, q0, hargs, rfl, rfl, h0, r0⟩ := trodAll_cons hA
  obtain ⟨v1, vs1, d1, ds1, p1, q1, rfl, rfl, rfl, h1, r1⟩ := trodAll_cons r0
  obtain ⟨rfl, rfl, rfl⟩ := trodAll_nil r1
  obtain rfl : args = #[v0, v1] := by cases args; simp_all
  obtain ⟨rfl, rfl⟩ := trodVars_none hV
  have lt0 : ∀ x ∈ p0, x.block < W.heap.size := by obtain ⟨m, hm⟩ := h0; exact DataW.trod_lt m _ _ _ hm
  obtain ⟨f0, g0⟩ := id h0
  have lt1 : ∀ x ∈ p1, x.block < W.heap.size := by obtain ⟨m, hm⟩ := h1; exact DataW.trod_lt m _ _ _ hm
  obtain ⟨f1, g1⟩ := id h1
  obtain ⟨y0, a0_0, m0_0, c0_0, a0_1, m0_1, c0_1, e0, hq0, hm0_0, hc0_0, _, hq0_0, hR0_0, hm0_1, hc0_1, _, hq0_1, hR0_1⟩ := o_claim_State g0
  obtain rfl := agg_of Try.underlying27 (hval 0 27 v0 rfl rfl) e0
  obtain ⟨y1, e1, hq1⟩ := o_claim_Op g1
  obtain rfl := agg_of Try.underlying37 (hval 1 37 v1 rfl rfl) e1
  clear hA0 hval0
  refine (c_batonlaw28_OpcodeSame y0 y1 a0_0 m0_0 c0_0 a0_1 m0_1 c0_1 true (opcodeSame y0 y1) W [] hm0_0 hc0_0 hR0_0 hm0_1 hc0_1 hR0_1 (Own.nil W)).mono ?_
  rintro e W' ⟨rfl, _, hE⟩
  have bel := below_of hE
  exact ⟨_, rfl, _, _, _, [], _, [], hW', trodAll_mk1 (shut_bool Try.underlying4 _), (trodAll_cons_mk (Below.trod laidOut (by kernel_rfl) (of_decide_eq_true (by kernel_rfl)) h0 bel lt0) (trodAll_cons_mk (Below.trod laidOut (by kernel_rfl) (of_decide_eq_true (by kernel_rfl)) h1 bel lt1) trodAll_mk0)), rfl, bel.frame _, fun h => by cases h⟩
theorem over : Rows.opcodeSameRow.holds Try.pinned (OpenSpec.ofChange Rows.opcodeSameSpec) :=
  OpenClaim.holds_of_wide 6 Try.f6 rfl rfl rfl rfl rfl rfl rfl ⟨rfl, rfl, rfl, rfl, rfl⟩ rfl rfl rfl rfl rfl (by kernel_rfl) Try.func6 (by kernel_rfl)
    (of_decide_eq_true (by kernel_rfl)) (by unfold Func.isWrapper; first | (rw [if_pos (by decide +kernel)]; kernel_rfl) | (rw [if_neg (by decide +kernel)]; exact ⟨rfl, rfl⟩))
    (fun os started H enc _ => lifted os started H enc)
theorem proved : Rows.OpcodeSameSaid := over
#print axioms proved
end Go.Proofs.Ytbigpfenlmfhgaa.opcodeSame
