/- A part of the proof that the row of the law holds of the program as translated: lemmas and contracts of its functions. -/
import Derived.Test.YtpjojocckoobeaaProg
import Derived.Test.YtpjojocckoobeaaGvW
set_option linter.unusedVariables false
set_option linter.unusedSimpArgs false
set_option maxRecDepth 10000
namespace Go.Proofs.Ytpjojocckoobeaa
open Go.GV Go.RowKit
attribute [local irreducible] wpList
theorem I3 : TI Try.prog 3 (.int .i64 0) 1 8 := by unfold TI; kernel_rfl
theorem I5 : TI Try.prog 5 (.int .u8 0) 1 1 := by unfold TI; kernel_rfl


theorem take_succ_eq {xs ys : List UInt8} {k : Nat} {x y : UInt8} (h : xs.take k = ys.take k) (hx : xs[k]? = some x) (hy : ys[k]? = some y) (he : (x.toNat : Int) = y.toNat) : xs.take (k + 1) = ys.take (k + 1) := by
  rw [List.take_add_one, List.take_add_one, h, hx, hy, UInt8.toNat_inj.1 (by omega : x.toNat = y.toNat)]
theorem ne_at {xs ys : List UInt8} {k : Nat} {x y : UInt8} (hx : xs[k]? = some x) (hy : ys[k]? = some y) (he : (x.toNat : Int) ≠ y.toNat) : ¬ xs = ys := by
  rintro rfl
  rw [hx] at hy
  injection hy with hy
  subst hy
  exact he rfl
theorem take_all {xs ys : List UInt8} {k : Nat} (h : xs.take k = ys.take k) (h1 : xs.length ≤ k) (h2 : ys.length ≤ k) : xs = ys := by
  rwa [List.take_of_length_le h1, List.take_of_length_le h2] at h


theorem cloneB (a : Option Addr) (c : Nat) (xs : List UInt8) (m : Nat) (hxm : xs.length = m) (w : World) (L : Hp) (hR : Rd w L a (fl eB xs)) (hn : m * 1 ≤ 140737488355328) (hO : Own w L) :
    Calls Try.prog 64 #[.slice a m c] w fun en w' => ∃ a' c' S, en = .returned (.slice a' m c') ∧ OwnSl 5 1 a' m c' (fl eB xs) S ∧ Own w' (S ++ L) ∧ Ext w L w' (S ++ L) := by
  subst hxm
  refine enter (n := 8) _ Try.func64 rfl Try.ntmps64 (by simp) ?_
  refine c_seq ?_
  refine c_reg ?_
  refine s_assign (v := .slice _ _ _) rfl ?_
  refine s_nil ?_
  refine c_next ?_
  refine c_seq ?_
  refine c_seq ?_
  refine c_reg ?_
  refine s_move (v := .slice _ _ _) rfl ?_
  refine s_sl_eql Try.underlying33 rfl rfl ?_
  refine c_bool (fun h4 => ?_) (fun h4 => ?_)
  · skip
    have ha : a = none := by cases a <;> simp_all
    subst ha
    obtain rfl : xs = [] := hR.nilE eB_len (by decide)
    refine s_nil ?_
    refine c_next ?_
    refine c_condT rfl ?_
    refine c_seq ?_
    refine c_reg ?_
    refine s_assign (v := .slice _ _ _) rfl ?_
    refine s_nil ?_
    refine c_next ?_
    refine c_ret ?_
    refine r_then ?_
    refine e_1 (v := .slice _ _ _) Try.results64 rfl ?_
    exact ⟨none, 0, [], rfl, OwnSl.nil _ _, hO, (Ext.refl _ _)⟩
  refine s_nil ?_
  refine c_next ?_
  refine c_condF rfl ?_
  refine c_skip ?_
  refine c_next ?_
  refine c_seq ?_
  refine c_reg ?_
  refine s_bs (vs := []) Try.underlying33 I5 hO rfl rfl (by simp [Value.cells]) (by decide) ?_
  intro b5 w1 hz5 hl5 hO1 e1
  refine s_move (v := .slice _ _ _) rfl ?_
  refine s_append Try.underlying33 I5 rfl (by decide) (by decide) rfl rfl (OwnSl.lit (cs := []) (m := 0) rfl (by decide)) (hO1.perm (pm0 (S := [_]))) (Rd.cs (hR.ext e1)) (fl_len eB_len xs) eB_one (mk := _) rfl (by omega) ?_
  intro a7 c7 S7 w2 hS7 hO2' e2'
  have hO2 := hO2'.perm (List.Perm.symm pm0); have e2 := e2'.permB (pm0 (S := [_])) (List.Perm.symm pm0); clear hO2' e2'
  refine s_assign (v := .slice _ _ _) rfl ?_
  refine s_nil ?_
  refine c_next ?_
  refine c_ret ?_
  refine e_1 (v := .slice _ _ _) Try.results64 rfl ?_
  exact ⟨a7, c7, S7, by simp, by simpa using hS7, hO2, (e1.trans e2)⟩

theorem cloneI (a : Option Addr) (c : Nat) (xs : List Int) (m : Nat) (hxm : xs.length = m) (w : World) (L : Hp) (hR : Rd w L a (fl eI xs)) (hn : m * 8 ≤ 140737488355328) (hO : Own w L) :
    Calls Try.prog 30 #[.slice a m c] w fun en w' => ∃ a' c' S, en = .returned (.slice a' m c') ∧ OwnSl 3 1 a' m c' (fl eI xs) S ∧ Own w' (S ++ L) ∧ Ext w L w' (S ++ L) := by
  subst hxm
  refine enter (n := 8) _ Try.func30 rfl Try.ntmps30 (by simp) ?_
  refine c_seq ?_
  refine c_reg ?_
  refine s_assign (v := .slice _ _ _) rfl ?_
  refine s_nil ?_
  refine c_next ?_
  refine c_seq ?_
  refine c_seq ?_
  refine c_reg ?_
  refine s_move (v := .slice _ _ _) rfl ?_
  refine s_sl_eql Try.underlying23 rfl rfl ?_
  refine c_bool (fun h4 => ?_) (fun h4 => ?_)
  · skip
    have ha : a = none := by cases a <;> simp_all
    subst ha
    obtain rfl : xs = [] := hR.nilE eI_len (by decide)
    refine s_nil ?_
    refine c_next ?_
    refine c_condT rfl ?_
    refine c_seq ?_
    refine c_reg ?_
    refine s_assign (v := .slice _ _ _) rfl ?_
    refine s_nil ?_
    refine c_next ?_
    refine c_ret ?_
    refine r_then ?_
    refine e_1 (v := .slice _ _ _) Try.results30 rfl ?_
    exact ⟨none, 0, [], rfl, OwnSl.nil _ _, hO, (Ext.refl _ _)⟩
  refine s_nil ?_
  refine c_next ?_
  refine c_condF rfl ?_
  refine c_skip ?_
  refine c_next ?_
  refine c_seq ?_
  refine c_reg ?_
  refine s_bs (vs := []) Try.underlying23 I3 hO rfl rfl (by simp [Value.cells]) (by decide) ?_
  intro b5 w1 hz5 hl5 hO1 e1
  refine s_move (v := .slice _ _ _) rfl ?_
  refine s_append Try.underlying23 I3 rfl (by decide) (by decide) rfl rfl (OwnSl.lit (cs := []) (m := 0) rfl (by decide)) (hO1.perm (pm0 (S := [_]))) (Rd.cs (hR.ext e1)) (fl_len eI_len xs) eI_one (mk := _) rfl (by omega) ?_
  intro a7 c7 S7 w2 hS7 hO2' e2'
  have hO2 := hO2'.perm (List.Perm.symm pm0); have e2 := e2'.permB (pm0 (S := [_])) (List.Perm.symm pm0); clear hO2' e2'
  refine s_assign (v := .slice _ _ _) rfl ?_
  refine s_nil ?_
  refine c_next ?_
  refine c_ret ?_
  refine e_1 (v := .slice _ _ _) Try.results30 rfl ?_
  exact ⟨a7, c7, S7, by simp, by simpa using hS7, hO2, (e1.trans e2)⟩

theorem equalB (a a2 : Option Addr) (c c2 : Nat) (xs ys : List UInt8) (m m2 : Nat) (hxm : xs.length = m) (hym : ys.length = m2) (w : World) (L : Hp) (hx : Rd w L a (fl eB xs)) (hy : Rd w L a2 (fl eB ys)) (hm : m ≤ 1000000000000) (hO : Own w L) :
    Calls Try.prog 65 #[.slice a m c, .slice a2 m2 c2] w fun en w' => ∃ b, en = .returned (.bool b) ∧ (b = true ↔ xs = ys) ∧ Own w' L ∧ Ext w L w' L := by
  subst hxm
  subst hym
  refine enter (n := 26) _ Try.func65 rfl Try.ntmps65 (by simp) ?_
  refine c_seq ?_
  refine c_reg ?_
  refine s_assign (v := .bool _) rfl ?_
  refine s_nil ?_
  refine c_next ?_
  refine c_seq ?_
  refine c_seq ?_
  refine c_reg ?_
  refine s_move (v := .slice _ _ _) rfl ?_
  refine s_len Try.underlying33 rfl ?_
  refine s_move (v := .slice _ _ _) rfl ?_
  refine s_len Try.underlying33 rfl ?_
  refine c_neq rfl rfl (fun h10 => ?_) (fun h10 => ?_)
  · skip
    refine s_nil ?_
    refine c_next ?_
    refine c_condT rfl ?_
    refine c_seq ?_
    refine c_reg ?_
    refine s_assign (v := .bool _) rfl ?_
    refine s_nil ?_
    refine c_next ?_
    refine c_ret ?_
    refine r_then ?_
    refine e_1 (v := .bool _) Try.results65 rfl ?_
    exact ⟨false, rfl, by simp; intro h_; rw [h_] at h10; simp at h10, hO, (Ext.refl _ _)⟩
  refine s_nil ?_
  refine c_next ?_
  refine c_condF rfl ?_
  refine c_skip ?_
  refine c_next ?_
  refine c_seq ?_
  refine c_seq ?_
  refine c_reg ?_
  refine s_move (v := .slice _ _ _) rfl ?_
  refine s_len Try.underlying33 rfl ?_
  refine s_move (v := .int _ _) rfl ?_
  refine s_nil ?_
  refine c_next ?_
  refine c_block ?_
  refine c_loopL hO (fun Lc f0 m g wl => ∃ (k : Nat), (m = xs.length - k) ∧ (g 13 = .int .i64 (k : Int)) ∧ (g 0 = f0 0) ∧ (g 1 = f0 1) ∧ (g 12 = f0 12) ∧ (k ≤ xs.length) ∧ (xs.take k = ys.take k) ∧ (Own wl (L)) ∧ (Ext w Lc wl (L))) (xs.length - 0) ?_ ?_
  · refine ⟨0, rfl, (by first | rfl | (simp; done)), rfl, rfl, rfl, Nat.zero_le _, rfl, hO, (Ext.refl _ _)⟩
  intro m1 g1 w1 hI1
  obtain ⟨k, hm1, hs1_13, hs1_0, hs1_1, hs1_12, hk, heq, hO1, e1⟩ := hI1
  obtain ⟨q1, rfl⟩ := fr4 hs1_13 hs1_0 hs1_1 hs1_12
  clear hs1_13 hs1_0 hs1_1 hs1_12
  refine c_seq ?_
  refine c_reg ?_
  refine c_lss rfl rfl (fun h14 => ?_) (fun h14 => ?_)
  · skip
    obtain ⟨x, hxk⟩ : ∃ x, xs[k]? = some x := ⟨xs[k]'(by omega), by simp⟩
    obtain ⟨y, hyk⟩ : ∃ y, ys[k]? = some y := ⟨ys[k]'(by omega), by simp⟩
    refine s_nil ?_
    refine c_next ?_
    refine c_seq ?_
    refine c_condT rfl ?_
    refine c_skip ?_
    refine c_next ?_
    refine c_seq ?_
    refine c_block ?_
    refine c_seq ?_
    refine c_reg ?_
    refine s_move (v := .int _ _) rfl ?_
    refine s_assign (v := .int _ _) rfl ?_
    refine s_nil ?_
    refine c_next ?_
    refine c_seq ?_
    refine d_startK hO1 9 (by kernel_rfl) (pk_then (pk_block (pk_then (pk_then (pk_block (pk_then pk_body)))))) ?_
    intro hP3 wd3 hK3 hO2 e2
    refine d_take (i := 0) (listed' := #[true, false, false, false, false, false, false, false, false]) (by rfl) (by kernel_rfl) (by rfl) hP3.t rfl hK3 (fun wS hS => r_move (v := .slice _ _ _) rfl) ?_
    refine d_take (i := 1) (listed' := #[true, true, false, false, false, false, false, false, false]) (by rfl) (by kernel_rfl) (by rfl) hP3.t rfl hK3 (fun wS hS => r_move (v := .int _ _) rfl) ?_
    obtain ⟨ad18, had18, hk18⟩ := idx_getE (Rd.cs (hx.ext (e1.trans e2))) eB_len (by decide) (by simpa using hxk)
    subst had18
    refine d_take (i := 2) (listed' := #[true, true, true, false, false, false, false, false, false]) (by rfl) (by kernel_rfl) (by rfl) hP3.t rfl hK3 (fun wS hS => r_idx Try.underlying33 I5 rfl rfl (by omega) (by omega)) ?_
    refine d_take (i := 3) (listed' := #[true, true, true, true, false, false, false, false, false]) (by rfl) (by kernel_rfl) (by rfl) hP3.t rfl hK3 (fun wS hS => r_load1 Try.underlying5 rfl rfl (cellP (hk18 _ ((hx.ext e1).kept hS)) 0 rfl)) ?_
    refine d_take (i := 4) (listed' := #[true, true, true, true, true, false, false, false, false]) (by rfl) (by kernel_rfl) (by rfl) hP3.t rfl hK3 (fun wS hS => r_move (v := .slice _ _ _) rfl) ?_
    refine d_take (i := 5) (listed' := #[true, true, true, true, true, true, false, false, false]) (by rfl) (by kernel_rfl) (by rfl) hP3.t rfl hK3 (fun wS hS => r_move (v := .int _ _) rfl) ?_
    obtain ⟨ad22, had22, hk22⟩ := idx_getE (Rd.cs (hy.ext (e1.trans e2))) eB_len (by decide) (by simpa using hyk)
    subst had22
    refine d_take (i := 6) (listed' := #[true, true, true, true, true, true, true, false, false]) (by rfl) (by kernel_rfl) (by rfl) hP3.t rfl hK3 (fun wS hS => r_idx Try.underlying33 I5 rfl rfl (by omega) (by omega)) ?_
    refine d_take (i := 7) (listed' := #[true, true, true, true, true, true, true, true, false]) (by rfl) (by kernel_rfl) (by rfl) hP3.t rfl hK3 (fun wS hS => r_load1 Try.underlying5 rfl rfl (cellP (hk22 _ ((hy.ext e1).kept hS)) 0 rfl)) ?_
    refine dt_neq (i := 8) (listed' := #[true, true, true, true, true, true, true, true, true]) (by rfl) (by kernel_rfl) (by rfl) hP3.u rfl hK3 rfl rfl (fun h24 => ?_) (fun h24 => ?_)
    · skip
      refine d_done (by kernel_rfl) ?_
      refine c_next ?_
      refine c_condT rfl ?_
      refine c_seq ?_
      refine c_reg ?_
      refine s_assign (v := .bool _) rfl ?_
      refine s_nil ?_
      refine c_next ?_
      refine c_ret ?_
      refine r_block ?_
      refine r_then ?_
      refine r_then ?_
      refine r_block ?_
      refine r_then ?_
      refine e_1 (v := .bool _) Try.results65 rfl ?_
      exact ⟨false, rfl, by simp; exact ne_at hxk hyk h24, hO2, (e1.trans e2)⟩
    refine d_done (by kernel_rfl) ?_
    refine c_next ?_
    refine c_condF rfl ?_
    refine c_skip ?_
    refine x_norm ?_
    refine c_next ?_
    refine c_reg ?_
    refine s_add rfl rfl (by omega) (by omega) ?_
    refine s_move (v := .int _ _) rfl ?_
    refine s_nil ?_
    refine l_end (m' := xs.length - (k + 1)) (by omega) ?_
    refine ⟨k + 1, rfl, (by first | rfl | (simp; done) | (congr 1; omega)), rfl, rfl, rfl, by omega, take_succ_eq heq hxk hyk (by omega), hO2, (e1.trans e2)⟩
  refine s_nil ?_
  refine c_next ?_
  refine c_seq ?_
  refine c_condF rfl ?_
  refine c_exit ?_
  refine x_then ?_
  refine x_then ?_
  refine x_same ?_
  refine c_next ?_
  refine c_seq ?_
  refine c_reg ?_
  refine s_assign (v := .bool _) rfl ?_
  refine s_nil ?_
  refine c_next ?_
  refine c_ret ?_
  refine e_1 (v := .bool _) Try.results65 rfl ?_
  exact ⟨true, rfl, by simp; exact take_all heq (by omega) (by omega), hO1, e1⟩
end Go.Proofs.Ytpjojocckoobeaa
