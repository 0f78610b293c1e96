/- A part of the proof that the row of the law holds of the program as translated: lemmas and contracts of its functions. -/
import Derived.Test.YtpjojocckoobeaaProg
import Derived.Test.YtpjojocckoobeaaLib2
import Derived.Test.YtpjojocckoobeaaCrc
set_option linter.unusedVariables false
set_option linter.unusedSimpArgs false
set_option maxRecDepth 10000
namespace Go.Proofs.Ytpjojocckoobeaa
open Go.GV Go.RowKit
attribute [local irreducible] wpList
theorem I33 : TI Try.prog 33 (.slice none 0 0) 1 24 := by unfold TI; kernel_rfl
theorem cf79 : ∀ (args : Array Value) (w : World), (callFunc 79 args).run Try.prog w = .ok (.enter 79 args) w := cf_of Try.func79 (by kernel_rfl) rfl


theorem fl_eS' (vs : List Value) : fl eS vs = vs := fl_eS vs
theorem flat_take {bss : List (List UInt8)} {k : Nat} {bs : List UInt8} (h : bss[k]? = some bs) : (bss.take (k + 1)).flatten = (bss.take k).flatten ++ bs := by
  rw [List.take_add_one, h, List.flatten_append]; simp
theorem flat_take_le (bss : List (List UInt8)) (k : Nat) : ((bss.take k).flatten).length ≤ (bss.flatten).length := by
  have h : bss.flatten = (bss.take k).flatten ++ (bss.drop k).flatten := by rw [← List.flatten_append, List.take_append_drop]
  rw [h, List.length_append]
  omega


theorem word_Get (a : Option Addr) (c : Nat) (xs : List UInt8) (hm : xs.length ≤ 1000000000000) (w : World) (L : Hp) (hR : Rd w L a (fl eB xs)) (hO : Own w L) :
    Calls Try.prog 66 #[.slice a xs.length c] w fun en w' => en = .returned (if 1 ≤ xs.length ∧ xs.length ≤ 8 then .tuple #[.int .u64 (beN xs : Int), .int .i64 0] else .tuple #[.int .u64 0, .int .i64 1]) ∧ Own w' L ∧ Ext w L w' L := by
  refine enter (n := 28) _ Try.func66 rfl Try.ntmps66 (by simp) ?_
  refine c_seq ?_
  refine c_reg ?_
  refine s_assign (v := .int _ _) rfl ?_
  refine s_assign (v := .int _ _) rfl ?_
  refine s_nil ?_
  refine c_next ?_
  refine c_seq ?_
  refine c_seq ?_
  refine c_reg ?_
  refine s_move (v := .slice _ _ _) rfl ?_
  refine s_len Try.underlying33 rfl ?_
  refine c_lss rfl rfl (fun h9 => ?_) (fun h9 => ?_)
  · skip
    refine s_move (v := .bool _) rfl ?_
    refine g_skip 10 (by rfl) (by rfl) (by rfl) ?_
    refine g_skip 10 (by rfl) (by rfl) (by rfl) ?_
    refine g_skip 10 (by rfl) (by rfl) (by rfl) ?_
    refine s_pickT (v := .bool _) rfl rfl ?_
    refine s_nil ?_
    refine c_next ?_
    refine c_condT rfl ?_
    refine c_seq ?_
    refine c_reg ?_
    refine s_assign (v := .int _ _) rfl ?_
    refine s_assign (v := .int _ _) rfl ?_
    refine s_nil ?_
    refine c_next ?_
    refine c_ret ?_
    refine r_then ?_
    refine e_2 (v := .int _ _) (v' := .int _ _) Try.results66 rfl rfl ?_
    rw [if_neg (by omega)]; exact ⟨rfl, hO, (Ext.refl _ _)⟩
  refine s_move (v := .bool _) rfl ?_
  refine g_do 10 (by rfl) (by rfl) ?_
  refine s_move (v := .slice _ _ _) rfl ?_
  refine g_do 10 (by rfl) (by rfl) ?_
  refine s_len Try.underlying33 rfl ?_
  refine g_do 10 (by rfl) (by rfl) ?_
  refine c_gtr rfl rfl (fun h13 => ?_) (fun h13 => ?_)
  · skip
    refine s_pickF (v := .bool _) rfl rfl ?_
    refine s_nil ?_
    refine c_next ?_
    refine c_condT rfl ?_
    refine c_seq ?_
    refine c_reg ?_
    refine s_assign (v := .int _ _) rfl ?_
    refine s_assign (v := .int _ _) rfl ?_
    refine s_nil ?_
    refine c_next ?_
    refine c_ret ?_
    refine r_then ?_
    refine e_2 (v := .int _ _) (v' := .int _ _) Try.results66 rfl rfl ?_
    rw [if_neg (by omega)]; exact ⟨rfl, hO, (Ext.refl _ _)⟩
  refine s_pickF (v := .bool _) rfl rfl ?_
  refine s_nil ?_
  refine c_next ?_
  refine c_condF rfl ?_
  refine c_skip ?_
  refine c_next ?_
  refine c_seq ?_
  refine c_reg ?_
  refine s_assign (v := .int _ _) rfl ?_
  refine s_nil ?_
  refine c_next ?_
  refine c_seq ?_
  refine c_seq ?_
  refine c_reg ?_
  refine s_move (v := .slice _ _ _) rfl ?_
  refine s_len Try.underlying33 rfl ?_
  refine s_move (v := .int _ _) rfl ?_
  refine s_nil ?_
  refine c_next ?_
  refine c_block ?_
  refine c_loopL hO (fun Lc f0 m g wl => ∃ (k : Nat) (n : Nat), (m = xs.length - k) ∧ (g 4 = .int .u64 (n : Int)) ∧ (g 17 = .int .i64 (k : Int)) ∧ (g 0 = f0 0) ∧ (g 15 = f0 15) ∧ (g 16 = f0 16) ∧ (k ≤ xs.length) ∧ (n < 18446744073709551616) ∧ ((xs.take k).foldl (fun n x => (n * 2 ^ 8 % 18446744073709551616) ||| x.toNat) 0 = n) ∧ (Own wl (L)) ∧ (Ext w Lc wl (L))) (xs.length - 0) ?_ ?_
  · refine ⟨0, 0, rfl, (by first | rfl | (simp; done)), (by first | rfl | (simp; done)), rfl, rfl, rfl, by omega, by decide, rfl, hO, (Ext.refl _ _)⟩
  intro m1 g1 w1 hI1
  obtain ⟨k, n, hm1, hs1_4, hs1_17, hs1_0, hs1_15, hs1_16, hk, hn, hi, hO1, e1⟩ := hI1
  obtain ⟨q1, rfl⟩ := fr5 hs1_4 hs1_17 hs1_0 hs1_15 hs1_16
  clear hs1_4 hs1_17 hs1_0 hs1_15 hs1_16
  refine c_seq ?_
  refine c_reg ?_
  refine c_lss rfl rfl (fun h18 => ?_) (fun h18 => ?_)
  · skip
    obtain ⟨x, hx⟩ : ∃ x, xs[k]? = some x := ⟨xs[k]'(by omega), by simp⟩
    have hx8 := x.toNat_lt
    refine s_nil ?_
    refine c_next ?_
    refine c_seq ?_
    refine c_condT rfl ?_
    refine c_skip ?_
    refine c_next ?_
    refine c_seq ?_
    refine c_block ?_
    refine c_seq ?_
    refine c_reg ?_
    refine s_idxE Try.underlying33 I5 rfl rfl (by omega) (by omega) (Rd.cs (hR.ext e1)) eB_len (by decide) (by simpa using hx) ?_
    intro p19 hp19
    refine s_load1 Try.underlying5 rfl rfl (cellP hp19 0 rfl) ?_
    refine s_assign (v := .int _ _) rfl ?_
    refine s_nil ?_
    refine c_next ?_
    refine c_reg ?_
    refine s_move (v := .int _ _) rfl ?_
    refine s_shlN (b := 8) (M := 18446744073709551616) rfl rfl rfl rfl (by decide) ?_
    refine s_move (v := .int _ _) rfl ?_
    refine s_convN (a := _) (M := 18446744073709551616) Try.underlying5 Try.underlying117 rfl rfl rfl (by omega) ?_
    refine s_orN (a := _) (b := _) (M := 18446744073709551616) rfl rfl rfl rfl (by omega) (by omega) ?_
    refine s_assign (v := .int _ _) rfl ?_
    refine s_nil ?_
    refine x_norm ?_
    refine c_next ?_
    refine c_reg ?_
    refine s_add rfl rfl (by omega) (by omega) ?_
    refine s_move (v := .int _ _) rfl ?_
    refine s_nil ?_
    refine l_end (m' := xs.length - (k + 1)) (by omega) ?_
    refine ⟨k + 1, (n * 2 ^ 8 % 18446744073709551616) ||| x.toNat, rfl, (by first | rfl | (simp; done) | (congr 1; omega)), (by first | rfl | (simp; done) | (congr 1; omega)), rfl, rfl, rfl, by omega, beStep_lt x, by rw [foldl_take hx, hi], hO1, e1⟩
  refine s_nil ?_
  refine c_next ?_
  refine c_seq ?_
  refine c_condF rfl ?_
  refine c_exit ?_
  refine x_then ?_
  refine x_then ?_
  refine x_same ?_
  refine c_next ?_
  refine c_seq ?_
  refine c_reg ?_
  refine s_move (v := .int _ _) rfl ?_
  refine s_assign (v := .int _ _) rfl ?_
  refine s_assign (v := .int _ _) rfl ?_
  refine s_nil ?_
  refine c_next ?_
  refine c_ret ?_
  refine e_2 (v := .int _ _) (v' := .int _ _) Try.results66 rfl rfl ?_
  obtain rfl : k = xs.length := by omega
  rw [List.take_length] at hi
  subst hi
  rw [if_pos (by omega)]
  exact ⟨rfl, hO1, e1⟩

theorem concatB (a : Option Addr) (c : Nat) (vs : List Value) (bss : List (List UInt8)) (hv : vs.length ≤ 1000000000000) (m : Nat) (hbm : bss.flatten.length = m) (hm : m ≤ 1000000000000) (w : World) (L : Hp) (hR : Rd w L a (fl eS vs)) (hA : RdAll w L vs bss) (hO : Own w L) :
    Calls Try.prog 61 #[.slice a vs.length c] w fun en w' => ∃ a' c' S, en = .returned (.slice a' m c') ∧ OwnSl 5 1 a' m c' (fl eB bss.flatten) S ∧ Own w' (S ++ L) ∧ Ext w L w' (S ++ L) := by
  subst hbm
  refine enter (n := 36) _ Try.func61 rfl Try.ntmps61 (by simp) ?_
  refine c_seq ?_
  refine c_reg ?_
  refine s_assign (v := .slice _ _ _) rfl ?_
  refine s_nil ?_
  refine c_next ?_
  refine c_seq ?_
  refine c_reg ?_
  refine s_assign (v := .int _ _) rfl ?_
  refine s_nil ?_
  refine c_next ?_
  refine c_seq ?_
  refine c_seq ?_
  refine c_reg ?_
  refine s_move (v := .slice _ _ _) rfl ?_
  refine s_len Try.underlying22 rfl ?_
  refine s_move (v := .int _ _) rfl ?_
  refine s_nil ?_
  refine c_next ?_
  refine c_block ?_
  refine c_loopL hO (fun Lc f0 m g wl => ∃ (k : Nat), (m = vs.length - k) ∧ (g 3 = .int .i64 ((bss.take k).flatten.length : Int)) ∧ (g 11 = .int .i64 (k : Int)) ∧ (g 0 = f0 0) ∧ (g 6 = f0 6) ∧ (g 8 = f0 8) ∧ (g 9 = f0 9) ∧ (g 10 = f0 10) ∧ (g 25 = f0 25) ∧ (g 26 = f0 26) ∧ (g 27 = f0 27) ∧ (k ≤ vs.length) ∧ (Own wl (L)) ∧ (Ext w Lc wl (L))) (vs.length - 0) ?_ ?_
  · refine ⟨0, rfl, (by first | rfl | (simp; done)), (by first | rfl | (simp; done)), rfl, rfl, rfl, rfl, rfl, rfl, rfl, rfl, by omega, hO, (Ext.refl _ _)⟩
  intro m1 g1 w1 hI1
  obtain ⟨k, hm1, hs1_3, hs1_11, hs1_0, hs1_6, hs1_8, hs1_9, hs1_10, hs1_25, hs1_26, hs1_27, hk, hO1, e1⟩ := hI1
  obtain ⟨q1, rfl⟩ := fr10 hs1_3 hs1_11 hs1_0 hs1_6 hs1_8 hs1_9 hs1_10 hs1_25 hs1_26 hs1_27
  clear hs1_3 hs1_11 hs1_0 hs1_6 hs1_8 hs1_9 hs1_10 hs1_25 hs1_26 hs1_27
  refine c_seq ?_
  refine c_reg ?_
  refine c_lss rfl rfl (fun h12 => ?_) (fun h12 => ?_)
  · skip
    obtain ⟨bs, hbs⟩ : ∃ bs, bss[k]? = some bs := ⟨bss[k]'(by rw [← hA.1]; omega), by simp⟩
    obtain ⟨ak, ck, hvk, hRk, hck⟩ := RdAll.get (hA.ext e1) hbs
    have hfl := flat_take_le bss (k + 1)
    rw [flat_take hbs] at hfl
    rw [List.length_append] at hfl
    refine s_nil ?_
    refine c_next ?_
    refine c_seq ?_
    refine c_condT rfl ?_
    refine c_skip ?_
    refine c_next ?_
    refine c_seq ?_
    refine c_block ?_
    refine c_seq ?_
    refine c_reg ?_
    refine s_idxE Try.underlying22 I33 rfl rfl (by omega) (by omega) (Rd.cs (hR.ext e1)) eS_len (by decide) hvk ?_
    intro p13 hp13
    refine s_load1 Try.underlying33 rfl rfl (cellP hp13 0 rfl) ?_
    refine s_assign (v := .slice _ _ _) rfl ?_
    refine s_nil ?_
    refine c_next ?_
    refine c_seq ?_
    refine c_reg ?_
    refine s_move (v := .int _ _) rfl ?_
    refine s_move (v := .slice _ _ _) rfl ?_
    refine s_len Try.underlying33 rfl ?_
    refine s_add rfl rfl (by omega) (by omega) ?_
    refine s_assign (v := .int _ _) rfl ?_
    refine s_nil ?_
    refine c_next ?_
    refine c_seq ?_
    refine c_reg ?_
    refine s_move (v := .int _ _) rfl ?_
    refine c_lss rfl rfl (fun h20 => ?_) (fun h20 => ?_)
    · exfalso; omega
    refine s_nil ?_
    refine c_next ?_
    refine c_condF rfl ?_
    refine c_skip ?_
    refine x_norm ?_
    refine c_next ?_
    refine c_reg ?_
    refine s_add rfl rfl (by omega) (by omega) ?_
    refine s_move (v := .int _ _) rfl ?_
    refine s_nil ?_
    refine l_end (m' := vs.length - (k + 1)) (by omega) ?_
    refine ⟨k + 1, rfl, (by rw [flat_take hbs, List.length_append]; rfl), (by first | rfl | (simp; done) | (congr 1; omega)), rfl, rfl, rfl, rfl, rfl, rfl, rfl, rfl, by omega, hO1, e1⟩
  refine s_nil ?_
  refine c_next ?_
  refine c_seq ?_
  refine c_condF rfl ?_
  refine c_exit ?_
  refine x_then ?_
  refine x_then ?_
  refine x_same ?_
  refine c_next ?_
  refine c_seq ?_
  refine c_reg ?_
  refine s_move (v := .int _ _) rfl ?_
  refine s_call cf79 rfl (growB (bss.take k).flatten.length (by have := flat_take_le bss k; omega) _ _ hO1) ?_
  rintro er24 w2 ⟨ag, cg, Sg, rfl, hSg, hO2, e2⟩
  refine ⟨_, rfl, ?_⟩
  refine s_assign (v := .slice _ _ _) rfl ?_
  refine s_nil ?_
  refine c_next ?_
  refine c_seq ?_
  refine c_seq ?_
  refine c_reg ?_
  refine s_move (v := .slice _ _ _) rfl ?_
  refine s_len Try.underlying22 rfl ?_
  refine s_move (v := .int _ _) rfl ?_
  refine s_nil ?_
  refine c_next ?_
  refine c_block ?_
  have hR := (hR.ext (e1.trans e2))
  have hA := (hA.ext (e1.trans e2))
  refine c_loopL hO2 (fun Lc f0 m g wl => ∃ (k : Nat) (a' : Option Addr) (c' : Nat) (S : Hp), (m = vs.length - k) ∧ (g 6 = .slice a' (bss.take k).flatten.length c') ∧ (g 27 = .int .i64 (k : Int)) ∧ (g 0 = f0 0) ∧ (g 3 = f0 3) ∧ (g 5 = f0 5) ∧ (g 9 = f0 9) ∧ (g 10 = f0 10) ∧ (g 11 = f0 11) ∧ (g 25 = f0 25) ∧ (g 26 = f0 26) ∧ (k ≤ vs.length) ∧ (OwnSl 5 1 a' (bss.take k).flatten.length c' (fl eB (bss.take k).flatten) S) ∧ (Own wl (S ++ L)) ∧ (Ext w2 Lc wl (S ++ L))) (vs.length - 0) ?_ ?_
  · refine ⟨0, _, _, _, rfl, (by first | rfl | (simp; done)), (by first | rfl | (simp; done)), rfl, rfl, rfl, rfl, rfl, rfl, rfl, rfl, by omega, hSg, hO2, (Ext.refl _ _)⟩
  intro m3 g3 w3 hI3
  obtain ⟨k, a', c', S, hm3, hs3_6, hs3_27, hs3_0, hs3_3, hs3_5, hs3_9, hs3_10, hs3_11, hs3_25, hs3_26, hk2, hS, hO3, e3⟩ := hI3
  obtain ⟨q3, rfl⟩ := fr10 hs3_6 hs3_27 hs3_0 hs3_3 hs3_5 hs3_9 hs3_10 hs3_11 hs3_25 hs3_26
  clear hs3_6 hs3_27 hs3_0 hs3_3 hs3_5 hs3_9 hs3_10 hs3_11 hs3_25 hs3_26
  refine c_seq ?_
  refine c_reg ?_
  refine c_lss rfl rfl (fun h28 => ?_) (fun h28 => ?_)
  · skip
    obtain ⟨bs, hbs⟩ : ∃ bs, bss[k]? = some bs := ⟨bss[k]'(by rw [← hA.1]; omega), by simp⟩
    obtain ⟨ak, ck, hvk, hRk, hck⟩ := RdAll.get (hA.ext e3) hbs
    have hfl := flat_take_le bss (k + 1)
    rw [flat_take hbs] at hfl
    rw [List.length_append] at hfl
    refine s_nil ?_
    refine c_next ?_
    refine c_seq ?_
    refine c_condT rfl ?_
    refine c_skip ?_
    refine c_next ?_
    refine c_seq ?_
    refine c_block ?_
    refine c_seq ?_
    refine c_reg ?_
    refine s_idxE Try.underlying22 I33 rfl rfl (by omega) (by omega) (Rd.cs (hR.ext e3)) eS_len (by decide) hvk ?_
    intro p29 hp29
    refine s_load1 Try.underlying33 rfl rfl (cellP hp29 0 rfl) ?_
    refine s_assign (v := .slice _ _ _) rfl ?_
    refine s_nil ?_
    refine c_next ?_
    refine c_reg ?_
    refine s_move (v := .slice _ _ _) rfl ?_
    refine s_move (v := .slice _ _ _) rfl ?_
    refine s_append Try.underlying33 I5 rfl (by decide) (by decide) rfl rfl hS (hO3.perm pm0) (Rd.cs hRk) (fl_len eB_len bs) eB_one (mk := _) rfl (by omega) ?_
    intro a33 c33 S33 w4 hS33 hO4' e4'
    have hO4 := hO4'.perm (List.Perm.symm pm0); have e4 := e4'.permB pm0 (List.Perm.symm pm0); clear hO4' e4'
    have hS33' : OwnSl 5 1 a33 (bss.take (k + 1)).flatten.length c33 (fl eB (bss.take (k + 1)).flatten) S33 := by rw [flat_take hbs, List.length_append, fl_app]; exact hS33
    refine s_assign (v := .slice _ _ _) rfl ?_
    refine s_nil ?_
    refine x_norm ?_
    refine c_next ?_
    refine c_reg ?_
    refine s_add rfl rfl (by omega) (by omega) ?_
    refine s_move (v := .int _ _) rfl ?_
    refine s_nil ?_
    refine l_end (m' := vs.length - (k + 1)) (by omega) ?_
    refine ⟨k + 1, _, _, _, rfl, (by rw [flat_take hbs, List.length_append]; rfl), (by first | rfl | (simp; done) | (congr 1; omega)), rfl, rfl, rfl, rfl, rfl, rfl, rfl, rfl, by omega, hS33', hO4, (e3.trans e4)⟩
  refine s_nil ?_
  refine c_next ?_
  refine c_seq ?_
  refine c_condF rfl ?_
  refine c_exit ?_
  refine x_then ?_
  refine x_then ?_
  refine x_same ?_
  refine c_next ?_
  refine c_seq ?_
  refine c_reg ?_
  refine s_move (v := .slice _ _ _) rfl ?_
  refine s_assign (v := .slice _ _ _) rfl ?_
  refine s_nil ?_
  refine c_next ?_
  refine c_ret ?_
  refine e_1 (v := .slice _ _ _) Try.results61 rfl ?_
  obtain rfl : k = vs.length := by omega
  rw [hA.1, List.take_length] at hS ⊢
  exact ⟨_, _, _, rfl, hS, hO3, (e1.trans (e2.trans e3))⟩
end Go.Proofs.Ytpjojocckoobeaa
