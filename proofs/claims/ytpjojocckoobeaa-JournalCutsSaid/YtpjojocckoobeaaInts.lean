/- A part of the proof that the row of the law holds of the program as translated: lemmas and contracts of its functions. -/
import Derived.Test.YtpjojocckoobeaaProg
import Derived.Test.YtpjojocckoobeaaGvW
set_option linter.unusedVariables false
set_option linter.unusedSimpArgs false
set_option maxRecDepth 10000
namespace Go.Proofs.Ytpjojocckoobeaa
open Go.GV Go.RowKit
attribute [local irreducible] wpList
theorem I3 : TI Try.prog 3 (.int .i64 0) 1 8 := by unfold TI; kernel_rfl
theorem cf81 : ∀ (args : Array Value) (w : World), (callFunc 81 args).run Try.prog w = .ok (.enter 81 args) w := cf_of Try.func81 (by kernel_rfl) rfl


theorem notin_succ {xs : List Int} {k : Nat} {v x : Int} (h : v ∉ xs.take k) (hx : xs[k]? = some x) (hne : v ≠ x) : v ∉ xs.take (k + 1) := by
  rw [List.take_add_one, hx]
  simp only [Option.toList_some, List.mem_append, List.mem_singleton, not_or]
  exact ⟨h, hne⟩


theorem indexI (a : Option Addr) (c : Nat) (xs : List Int) (v : Int) (hm : xs.length ≤ 1000000000000) (w : World) (L : Hp) (hR : Rd w L a (fl eI xs)) (hO : Own w L) :
    Calls Try.prog 81 #[.slice a xs.length c, .int .i64 v] w fun en w' => ∃ r, en = .returned (.int .i64 r) ∧ (0 ≤ r ↔ v ∈ xs) ∧ Own w' L ∧ Ext w L w' L := by
  refine enter (n := 19) _ Try.func81 rfl Try.ntmps81 (by simp) ?_
  refine c_seq ?_
  refine c_reg ?_
  refine s_assign (v := .int _ _) rfl ?_
  refine s_nil ?_
  refine c_next ?_
  refine c_seq ?_
  refine c_seq ?_
  refine c_reg ?_
  refine s_move (v := .slice _ _ _) rfl ?_
  refine s_len Try.underlying23 rfl ?_
  refine s_move (v := .int _ _) rfl ?_
  refine s_nil ?_
  refine c_next ?_
  refine c_block ?_
  refine c_loopL hO (fun Lc f0 m g wl => ∃ (k : Nat), (m = xs.length - k) ∧ (g 8 = .int .i64 (k : Int)) ∧ (g 0 = f0 0) ∧ (g 1 = f0 1) ∧ (g 7 = f0 7) ∧ (k ≤ xs.length) ∧ (v ∉ xs.take k) ∧ (Own wl (L)) ∧ (Ext w Lc wl (L))) (xs.length - 0) ?_ ?_
  · refine ⟨0, rfl, (by first | rfl | (simp; done)), rfl, rfl, rfl, by omega, by simp, hO, (Ext.refl _ _)⟩
  intro m1 g1 w1 hI1
  obtain ⟨k, hm1, hs1_8, hs1_0, hs1_1, hs1_7, hk, hi, hO1, e1⟩ := hI1
  obtain ⟨q1, rfl⟩ := fr4 hs1_8 hs1_0 hs1_1 hs1_7
  clear hs1_8 hs1_0 hs1_1 hs1_7
  refine c_seq ?_
  refine c_reg ?_
  refine c_lss rfl rfl (fun h9 => ?_) (fun h9 => ?_)
  · skip
    obtain ⟨x, hx⟩ : ∃ x, xs[k]? = some x := ⟨xs[k]'(by omega), by simp⟩
    refine s_nil ?_
    refine c_next ?_
    refine c_seq ?_
    refine c_condT rfl ?_
    refine c_skip ?_
    refine c_next ?_
    refine c_seq ?_
    refine c_block ?_
    refine c_seq ?_
    refine c_reg ?_
    refine s_move (v := .int _ _) rfl ?_
    refine s_assign (v := .int _ _) rfl ?_
    refine s_nil ?_
    refine c_next ?_
    refine c_seq ?_
    refine c_reg ?_
    refine s_move (v := .int _ _) rfl ?_
    refine s_move (v := .slice _ _ _) rfl ?_
    refine s_move (v := .int _ _) rfl ?_
    refine s_idxE Try.underlying23 I3 rfl rfl (by omega) (by omega) (Rd.cs (hR.ext e1)) eI_len (by decide) (by simpa using hx) ?_
    intro p14 hp14
    refine s_load1 Try.underlying3 rfl rfl (cellP hp14 0 rfl) ?_
    refine c_eql rfl rfl (fun h16 => ?_) (fun h16 => ?_)
    · skip
      refine s_nil ?_
      refine c_next ?_
      refine c_condT rfl ?_
      refine c_seq ?_
      refine c_reg ?_
      refine s_move (v := .int _ _) rfl ?_
      refine s_assign (v := .int _ _) rfl ?_
      refine s_nil ?_
      refine c_next ?_
      refine c_ret ?_
      refine r_block ?_
      refine r_then ?_
      refine r_then ?_
      refine r_block ?_
      refine r_then ?_
      refine e_1 (v := .int _ _) Try.results81 rfl ?_
      exact ⟨_, rfl, ⟨fun _ => by rw [h16]; exact List.mem_of_getElem? hx, fun _ => by omega⟩, hO1, e1⟩
    refine s_nil ?_
    refine c_next ?_
    refine c_condF rfl ?_
    refine c_skip ?_
    refine x_norm ?_
    refine c_next ?_
    refine c_reg ?_
    refine s_add rfl rfl (by omega) (by omega) ?_
    refine s_move (v := .int _ _) rfl ?_
    refine s_nil ?_
    refine l_end (m' := xs.length - (k + 1)) (by omega) ?_
    refine ⟨k + 1, rfl, (by first | rfl | (simp; done) | (congr 1; omega)), rfl, rfl, rfl, by omega, notin_succ hi hx h16, hO1, e1⟩
  refine s_nil ?_
  refine c_next ?_
  refine c_seq ?_
  refine c_condF rfl ?_
  refine c_exit ?_
  refine x_then ?_
  refine x_then ?_
  refine x_same ?_
  refine c_next ?_
  refine c_seq ?_
  refine c_reg ?_
  refine s_assign (v := .int _ _) rfl ?_
  refine s_nil ?_
  refine c_next ?_
  refine c_ret ?_
  refine e_1 (v := .int _ _) Try.results81 rfl ?_
  rw [List.take_of_length_le (by omega)] at hi
  exact ⟨_, rfl, ⟨fun h => by omega, fun h => (hi h).elim⟩, hO1, e1⟩

theorem containsI (a : Option Addr) (c : Nat) (xs : List Int) (v : Int) (hm : xs.length ≤ 1000000000000) (w : World) (L : Hp) (hR : Rd w L a (fl eI xs)) (hO : Own w L) :
    Calls Try.prog 72 #[.slice a xs.length c, .int .i64 v] w fun en w' => ∃ b, en = .returned (.bool b) ∧ (b = true ↔ v ∈ xs) ∧ Own w' L ∧ Ext w L w' L := by
  refine enter (n := 9) _ Try.func72 rfl Try.ntmps72 (by simp) ?_
  refine c_seq ?_
  refine c_reg ?_
  refine s_assign (v := .bool _) rfl ?_
  refine s_nil ?_
  refine c_next ?_
  refine c_seq ?_
  refine c_reg ?_
  refine s_move (v := .slice _ _ _) rfl ?_
  refine s_move (v := .int _ _) rfl ?_
  refine s_call cf81 rfl (indexI a c xs v hm _ _ hR hO) ?_
  rintro er7 w1 ⟨r, rfl, hr, hO1, e1⟩
  refine ⟨_, rfl, ?_⟩
  refine c_geq rfl rfl (fun h8 => ?_) (fun h8 => ?_)
  · skip
    refine s_assign (v := .bool _) rfl ?_
    refine s_nil ?_
    refine c_next ?_
    refine c_ret ?_
    refine e_1 (v := .bool _) Try.results72 rfl ?_
    exact ⟨true, rfl, by simp only [true_iff]; exact hr.1 h8, hO1, e1⟩
  refine s_assign (v := .bool _) rfl ?_
  refine s_nil ?_
  refine c_next ?_
  refine c_ret ?_
  refine e_1 (v := .bool _) Try.results72 rfl ?_
  exact ⟨false, rfl, by simp only [Bool.false_eq_true, false_iff]; exact fun h => by have := hr.2 h; omega, hO1, e1⟩
end Go.Proofs.Ytpjojocckoobeaa
