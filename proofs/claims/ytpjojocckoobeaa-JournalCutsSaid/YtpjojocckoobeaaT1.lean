/- A part of the proof that the row of the law holds of the program as translated: lemmas and contracts of its functions. -/
import Derived.Test.YtpjojocckoobeaaProg
import Derived.Test.YtpjojocckoobeaaGvW
set_option linter.unusedVariables false
set_option linter.unusedSimpArgs false
set_option maxRecDepth 10000
namespace Go.Proofs.Ytpjojocckoobeaa
open Go.GV Go.RowKit
attribute [local irreducible] wpList
theorem I3 : TI Try.prog 3 (.int .i64 0) 1 8 := by unfold TI; kernel_rfl
theorem I4 : TI Try.prog 4 (.bool false) 1 1 := by unfold TI; kernel_rfl
theorem I22 : TI Try.prog 22 (.slice none 0 0) 1 24 := by unfold TI; kernel_rfl

theorem disk_there (p nb cb : Nat) (ab : Option Addr) (v1 v2 : Value) (down : Bool) (left : Int) (w : World) (L : Hp) (n : Int) (hO : Own w ((p, .cells #[.slice ab nb cb, v1, v2, .bool down, .int .i64 left] 79 (0, 0)) :: L)) :
    Calls Try.prog 63 #[.pointer (some ⟨p, 0, none⟩), .int .i64 n] w fun e w' => ∃ b, e = .returned (.bool b) ∧ (b = true ↔ 0 ≤ n ∧ n < nb) ∧ Own w' ((p, .cells #[.slice ab nb cb, v1, v2, .bool down, .int .i64 left] 79 (0, 0)) :: L) ∧ Ext w ((p, .cells #[.slice ab nb cb, v1, v2, .bool down, .int .i64 left] 79 (0, 0)) :: L) w' ((p, .cells #[.slice ab nb cb, v1, v2, .bool down, .int .i64 left] 79 (0, 0)) :: L) := by
  refine enter (n := 16) _ Try.func63 rfl Try.ntmps63 (by simp) ?_
  refine c_seq ?_
  refine c_reg ?_
  refine s_assign (v := .bool _) rfl ?_
  refine s_nil ?_
  refine c_next ?_
  refine c_seq ?_
  refine c_reg ?_
  refine s_move (v := .int _ _) rfl ?_
  refine c_geq rfl rfl (fun h6 => ?_) (fun h6 => ?_)
  · skip
    refine s_move (v := .bool _) rfl ?_
    refine g_do 7 (by rfl) (by rfl) ?_
    refine s_move (v := .int _ _) rfl ?_
    refine g_do 7 (by rfl) (by rfl) ?_
    refine s_move (v := .pointer _) rfl ?_
    refine g_do 7 (by rfl) (by rfl) ?_
    refine s_nilCheck rfl ?_
    refine g_do 7 (by rfl) (by rfl) ?_
    refine s_fieldAddr Try.underlying79 rfl I22 (by decide) rfl ?_
    refine g_do 7 (by rfl) (by rfl) ?_
    refine s_load1 Try.underlying22 rfl rfl (cellB (hO.get (i := 0) rfl) rfl rfl) ?_
    refine g_do 7 (by rfl) (by rfl) ?_
    refine s_len Try.underlying22 rfl ?_
    refine g_do 7 (by rfl) (by rfl) ?_
    refine c_lss rfl rfl (fun h14 => ?_) (fun h14 => ?_)
    · skip
      refine s_pickT (v := .bool _) rfl rfl ?_
      refine s_assign (v := .bool _) rfl ?_
      refine s_nil ?_
      refine c_next ?_
      refine c_ret ?_
      refine e_1 (v := .bool _) Try.results63 rfl ?_
      exact ⟨_, rfl, by simp; omega, hO, (Ext.refl _ _)⟩
    refine s_pickT (v := .bool _) rfl rfl ?_
    refine s_assign (v := .bool _) rfl ?_
    refine s_nil ?_
    refine c_next ?_
    refine c_ret ?_
    refine e_1 (v := .bool _) Try.results63 rfl ?_
    exact ⟨_, rfl, by simp; omega, hO, (Ext.refl _ _)⟩
  refine s_move (v := .bool _) rfl ?_
  refine g_skip 7 (by rfl) (by rfl) (by rfl) ?_
  refine g_skip 7 (by rfl) (by rfl) (by rfl) ?_
  refine g_skip 7 (by rfl) (by rfl) (by rfl) ?_
  refine g_skip 7 (by rfl) (by rfl) (by rfl) ?_
  refine g_skip 7 (by rfl) (by rfl) (by rfl) ?_
  refine g_skip 7 (by rfl) (by rfl) (by rfl) ?_
  refine g_skip 7 (by rfl) (by rfl) (by rfl) ?_
  refine s_pickF (v := .bool _) rfl rfl ?_
  refine s_assign (v := .bool _) rfl ?_
  refine s_nil ?_
  refine c_next ?_
  refine c_ret ?_
  refine e_1 (v := .bool _) Try.results63 rfl ?_
  exact ⟨_, rfl, by simp; omega, hO, (Ext.refl _ _)⟩

theorem disk_step (p nb cb : Nat) (ab : Option Addr) (v1 v2 : Value) (down : Bool) (left : Int) (w : World) (L : Hp) (h0 : -1 ≤ left) (h1 : left ≤ 9223372036854775807) (hO : Own w ((p, .cells #[.slice ab nb cb, v1, v2, .bool down, .int .i64 left] 79 (0, 0)) :: L)) :
    Calls Try.prog 73 #[.pointer (some ⟨p, 0, none⟩)] w fun e w' => ∃ b down' left', e = .returned (.bool b) ∧ (b = true ↔ left ≠ 0) ∧ down' = (if left = 0 then true else down) ∧ left' = (if left > 0 then left - 1 else left) ∧ Own w' ((p, .cells #[.slice ab nb cb, v1, v2, .bool down', .int .i64 left'] 79 (0, 0)) :: L) ∧ Ext w ((p, .cells #[.slice ab nb cb, v1, v2, .bool down, .int .i64 left] 79 (0, 0)) :: L) w' ((p, .cells #[.slice ab nb cb, v1, v2, .bool down', .int .i64 left'] 79 (0, 0)) :: L) := by
  refine enter (n := 23) _ Try.func73 rfl Try.ntmps73 (by simp) ?_
  refine c_seq ?_
  refine c_reg ?_
  refine s_assign (v := .bool _) rfl ?_
  refine s_nil ?_
  refine c_next ?_
  refine c_seq ?_
  refine c_seq ?_
  refine c_reg ?_
  refine s_move (v := .pointer _) rfl ?_
  refine s_nilCheck rfl ?_
  refine s_fieldAddr Try.underlying79 rfl I3 (by decide) rfl ?_
  refine s_load1 Try.underlying3 rfl rfl (cellB (hO.get (i := 0) rfl) rfl rfl) ?_
  refine c_eql rfl rfl (fun h7 => ?_) (fun h7 => ?_)
  · skip
    refine s_nil ?_
    refine c_next ?_
    refine c_condT rfl ?_
    refine c_seq ?_
    refine c_reg ?_
    refine s_move (v := .pointer _) rfl ?_
    refine s_nilCheck rfl ?_
    refine s_fieldAddr Try.underlying79 rfl I4 (by decide) rfl ?_
    refine s_store1 (v := .bool _) (o := 3) I4 rfl rfl rfl hO (i := 0) rfl rfl rfl ?_
    intro w1 hO1 e1
    refine s_nil ?_
    refine c_next ?_
    refine c_seq ?_
    refine c_reg ?_
    refine s_assign (v := .bool _) rfl ?_
    refine s_nil ?_
    refine c_next ?_
    refine c_ret ?_
    refine r_then ?_
    refine e_1 (v := .bool _) Try.results73 rfl ?_
    exact ⟨_, _, _, rfl, by simp; omega, by simp; omega, by simp; omega, hO1, e1⟩
  refine s_nil ?_
  refine c_next ?_
  refine c_condF rfl ?_
  refine c_skip ?_
  refine c_next ?_
  refine c_seq ?_
  refine c_seq ?_
  refine c_reg ?_
  refine s_move (v := .pointer _) rfl ?_
  refine s_nilCheck rfl ?_
  refine s_fieldAddr Try.underlying79 rfl I3 (by decide) rfl ?_
  refine s_load1 Try.underlying3 rfl rfl (cellB (hO.get (i := 0) rfl) rfl rfl) ?_
  refine c_gtr rfl rfl (fun h15 => ?_) (fun h15 => ?_)
  · skip
    refine s_nil ?_
    refine c_next ?_
    refine c_condT rfl ?_
    refine c_reg ?_
    refine s_move (v := .pointer _) rfl ?_
    refine s_nilCheck rfl ?_
    refine s_fieldAddr Try.underlying79 rfl I3 (by decide) rfl ?_
    refine s_load1 Try.underlying3 rfl rfl (cellB (hO.get (i := 0) rfl) rfl rfl) ?_
    refine s_sub rfl rfl (by omega) (by omega) ?_
    refine s_nilCheck rfl ?_
    refine s_fieldAddr Try.underlying79 rfl I3 (by decide) rfl ?_
    refine s_store1 (v := .int _ _) (o := 4) I3 rfl rfl rfl hO (i := 0) rfl rfl rfl ?_
    intro w2 hO2 e2
    refine s_nil ?_
    refine c_next ?_
    refine c_seq ?_
    refine c_reg ?_
    refine s_assign (v := .bool _) rfl ?_
    refine s_nil ?_
    refine c_next ?_
    refine c_ret ?_
    refine e_1 (v := .bool _) Try.results73 rfl ?_
    exact ⟨_, _, _, rfl, by simp; omega, by simp; omega, by simp; omega, hO2, e2⟩
  refine s_nil ?_
  refine c_next ?_
  refine c_condF rfl ?_
  refine c_skip ?_
  refine c_next ?_
  refine c_seq ?_
  refine c_reg ?_
  refine s_assign (v := .bool _) rfl ?_
  refine s_nil ?_
  refine c_next ?_
  refine c_ret ?_
  refine e_1 (v := .bool _) Try.results73 rfl ?_
  exact ⟨_, _, _, rfl, by simp; omega, by simp; omega, by simp; omega, hO, (Ext.refl _ _)⟩

theorem disk_Blocks (p nb cb : Nat) (ab : Option Addr) (v1 v2 : Value) (down : Bool) (left : Int) (w : World) (L : Hp) (hO : Own w ((p, .cells #[.slice ab nb cb, v1, v2, .bool down, .int .i64 left] 79 (0, 0)) :: L)) :
    Calls Try.prog 31 #[.pointer (some ⟨p, 0, none⟩)] w fun e w' => e = .returned (.int .i64 nb) ∧ Own w' ((p, .cells #[.slice ab nb cb, v1, v2, .bool down, .int .i64 left] 79 (0, 0)) :: L) ∧ Ext w ((p, .cells #[.slice ab nb cb, v1, v2, .bool down, .int .i64 left] 79 (0, 0)) :: L) w' ((p, .cells #[.slice ab nb cb, v1, v2, .bool down, .int .i64 left] 79 (0, 0)) :: L) := by
  refine enter (n := 8) _ Try.func31 rfl Try.ntmps31 (by simp) ?_
  refine c_seq ?_
  refine c_reg ?_
  refine s_assign (v := .int _ _) rfl ?_
  refine s_nil ?_
  refine c_next ?_
  refine c_seq ?_
  refine c_reg ?_
  refine s_move (v := .pointer _) rfl ?_
  refine s_nilCheck rfl ?_
  refine s_fieldAddr Try.underlying79 rfl I22 (by decide) rfl ?_
  refine s_load1 Try.underlying22 rfl rfl (cellB (hO.get (i := 0) rfl) rfl rfl) ?_
  refine s_len Try.underlying22 rfl ?_
  refine s_assign (v := .int _ _) rfl ?_
  refine s_nil ?_
  refine c_next ?_
  refine c_ret ?_
  refine e_1 (v := .int _ _) Try.results31 rfl ?_
  exact ⟨rfl, hO, (Ext.refl _ _)⟩
end Go.Proofs.Ytpjojocckoobeaa
