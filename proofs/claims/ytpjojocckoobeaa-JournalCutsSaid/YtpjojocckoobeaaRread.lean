/- A part of the proof that the row of the law holds of the program as translated: lemmas and contracts of its functions. -/
import Derived.Test.YtpjojocckoobeaaProg
import Derived.Test.YtpjojocckoobeaaRecord
set_option linter.unusedVariables false
set_option linter.unusedSimpArgs false
set_option maxRecDepth 10000
namespace Go.Proofs.Ytpjojocckoobeaa
open Go.GV Go.RowKit
attribute [local irreducible] wpList
theorem I84 : TI Try.prog 84 (.agg #[(.int .i64 0), (.int .i64 0), (.slice none 0 0)]) 3 40 := by unfold TI; kernel_rfl
theorem pl84 : PL Try.prog 84 #[(0, 1), (1, 1), (2, 1)] := ⟨_, Try.underlying84, fun w => by kernel_rfl⟩
theorem cf65 : ∀ (args : Array Value) (w : World), (callFunc 65 args).run Try.prog w = .ok (.enter 65 args) w := cf_of Try.func65 (by kernel_rfl) rfl
theorem cf66 : ∀ (args : Array Value) (w : World), (callFunc 66 args).run Try.prog w = .ok (.enter 66 args) w := cf_of Try.func66 (by kernel_rfl) rfl
theorem cf67 : ∀ (args : Array Value) (w : World), (callFunc 67 args).run Try.prog w = .ok (.enter 67 args) w := cf_of Try.func67 (by kernel_rfl) rfl


theorem word_Get8 (a : Option Addr) (c : Nat) (xs : List UInt8) (hx : xs.length = 8) (w : World) (L : Hp) (hR : Rd w L a (fl eB xs)) (hO : Own w L) :
    Calls Try.prog 66 #[.slice a 8 c] w fun en w' => en = .returned (.tuple #[.int .u64 (beN xs : Int), .int .i64 0]) ∧ Own w' L ∧ Ext w L w' L :=
  Calls.mono (hx ▸ word_Get a c xs (by omega) w L hR hO) fun en w' h => by
    rw [if_pos (by omega)] at h
    exact h
theorem rr_len {xs : List UInt8} (h : xs.length ≠ 256) : recRead xs = (⟨0, 0, []⟩, 22) := if_pos h
theorem rr_0 {xs : List UInt8} (h : xs.length = 256) (h1 : xs.getD 255 0 = 0) : recRead xs = (⟨0, 0, []⟩, 3) := (if_neg (fun q => q h)).trans (if_pos h1)
theorem rr_6 {xs : List UInt8} (h : xs.length = 256) (h1 : xs.getD 255 0 ≠ 0) (h2 : (xs.getD 255 0).toNat > 1) : recRead xs = (⟨0, 0, []⟩, 6) := (if_neg (fun q => q h)).trans ((if_neg h1).trans (if_pos h2))
theorem rr_21 {xs : List UInt8} (h : xs.length = 256) (h1 : xs.getD 255 0 ≠ 0) (h2 : ¬ (xs.getD 255 0).toNat > 1) (h3 : ¬ sum4 (crcMore 0 (xs.take 251)) = (xs.drop 251).take 4) : recRead xs = (⟨0, 0, []⟩, 21) :=
  (if_neg (fun q => q h)).trans ((if_neg h1).trans ((if_neg h2).trans (if_pos h3)))
theorem rr_b {xs : List UInt8} (h : xs.length = 256) (h1 : xs.getD 255 0 ≠ 0) (h2 : ¬ (xs.getD 255 0).toNat > 1) (h3 : sum4 (crcMore 0 (xs.take 251)) = (xs.drop 251).take 4) (h4 : recBad xs) : recRead xs = (⟨0, 0, []⟩, 6) :=
  (if_neg (fun q => q h)).trans ((if_neg h1).trans ((if_neg h2).trans ((if_neg (fun q => q h3)).trans (if_pos h4))))
theorem rr_ok {xs : List UInt8} (h : xs.length = 256) (h1 : xs.getD 255 0 ≠ 0) (h2 : ¬ (xs.getD 255 0).toNat > 1) (h3 : sum4 (crcMore 0 (xs.take 251)) = (xs.drop 251).take 4) (h4 : ¬ recBad xs) : recRead xs = (⟨beN (xs.take 8), beN ((xs.drop 8).take 8), (xs.drop 17).take (xs.getD 16 0).toNat⟩, 0) :=
  (if_neg (fun q => q h)).trans ((if_neg h1).trans ((if_neg h2).trans ((if_neg (fun q => q h3)).trans (if_neg h4))))
theorem u8_ne {x : UInt8} {k : Nat} (hk : k < 256) (h : (x.toNat : Int) ≠ (k : Int)) : x ≠ UInt8.ofNat k := by
  rintro rfl
  apply h
  simp [Nat.mod_eq_of_lt hk]


theorem record_Read (a : Option Addr) (c : Nat) (xs : List UInt8) (m : Nat) (hxm : xs.length = m) (hm : m ≤ 1000000000000) (hmc : m ≤ c) (w : World) (L : Hp) (hR : Rd w L a (fl eB xs)) (hO : Own w L) :
    Calls Try.prog 36 #[.slice a m c] w fun en w' => ∃ a' c' S, en = .returned (.tuple #[.agg #[.int .i64 ((recRead xs).1.gen : Int), .int .i64 ((recRead xs).1.no : Int), .slice a' (recRead xs).1.data.length c'], .int .i64 ((recRead xs).2 : Int)]) ∧ OwnSl 5 1 a' (recRead xs).1.data.length c' (fl eB (recRead xs).1.data) S ∧ Own w' (S ++ L) ∧ Ext w L w' (S ++ L) := by
  subst hxm
  refine enter (n := 79) _ Try.func36 rfl Try.ntmps36 (by simp) ?_
  refine c_seq ?_
  refine c_reg ?_
  refine s_alloc I84 hO ?_
  intro b2 w1 hz2 hl2 hO1 e1
  refine s_assign (v := .int _ _) rfl ?_
  refine s_nil ?_
  refine c_next ?_
  refine c_seq ?_
  refine c_block ?_
  refine c_seq ?_
  refine c_reg ?_
  refine s_move (v := .slice _ _ _) rfl ?_
  refine s_len Try.underlying33 rfl ?_
  refine c_neq rfl rfl (fun h12 => ?_) (fun h12 => ?_)
  · skip
    refine s_assign (v := .bool _) rfl ?_
    refine s_nil ?_
    refine c_next ?_
    refine c_condT rfl ?_
    refine c_seq ?_
    refine c_reg ?_
    refine s_build (vs := []) (cells := #[_, _, _]) I84 pl84 rfl rfl ?_
    refine s_storeN I84 rfl rfl rfl hO1 (i := 0) rfl (Nat.le_of_ble_eq_true rfl) (List.all_eq_true.1 rfl) ?_
    intro w2 hO2 e2
    refine s_assign (v := .int _ _) rfl ?_
    refine s_nil ?_
    refine c_next ?_
    refine c_ret ?_
    refine r_block ?_
    refine r_then ?_
    refine e_r2 Try.results36 (rv_agg Try.underlying84 rfl I84 rfl (hO2.get (i := 0) rfl) rfl rfl) (rv_tmp (v := .int _ _) rfl) ?_
    obtain ⟨hO3, e3⟩ := hO2.drop1
    rw [rr_len (by omega)]
    exact ⟨none, 0, [], rfl, OwnSl.nil _ _, hO3, (e1.trans (e2.trans e3))⟩
  obtain ⟨x255, hx255⟩ : ∃ x, xs[255]? = some x := ⟨xs[255]'(by omega), by simp⟩
  obtain ⟨x16, hx16⟩ : ∃ x, xs[16]? = some x := ⟨xs[16]'(by omega), by simp⟩
  have h16l := x16.toNat_lt
  have hl256 : xs.length = 256 := by omega
  have hg255 : xs.getD 255 0 = x255 := by simp [List.getD_eq_getElem?_getD, hx255]
  have hg16 : xs.getD 16 0 = x16 := by simp [List.getD_eq_getElem?_getD, hx16]
  have hb8 := beN_lt (xs.take 8)
  have hb16 := beN_lt ((xs.drop 8).take 8)
  refine s_assign (v := .bool _) rfl ?_
  refine s_nil ?_
  refine c_next ?_
  refine c_condF rfl ?_
  refine c_seq ?_
  refine c_reg ?_
  refine s_move (v := .slice _ _ _) rfl ?_
  refine s_idxE Try.underlying33 I5 rfl rfl (by omega) (by omega) (Rd.cs (hR.ext e1)) eB_len (by decide) hx255 ?_
  intro p16 hp16
  refine s_load1 Try.underlying5 rfl rfl (cellP hp16 0 rfl) ?_
  refine c_eql rfl rfl (fun h18 => ?_) (fun h18 => ?_)
  · skip
    refine s_assign (v := .bool _) rfl ?_
    refine s_nil ?_
    refine c_next ?_
    refine c_condT rfl ?_
    refine c_seq ?_
    refine c_reg ?_
    refine s_build (vs := []) (cells := #[_, _, _]) I84 pl84 rfl rfl ?_
    refine s_storeN I84 rfl rfl rfl hO1 (i := 0) rfl (Nat.le_of_ble_eq_true rfl) (List.all_eq_true.1 rfl) ?_
    intro w4 hO4 e4
    refine s_assign (v := .int _ _) rfl ?_
    refine s_nil ?_
    refine c_next ?_
    refine c_ret ?_
    refine r_block ?_
    refine r_then ?_
    refine e_r2 Try.results36 (rv_agg Try.underlying84 rfl I84 rfl (hO4.get (i := 0) rfl) rfl rfl) (rv_tmp (v := .int _ _) rfl) ?_
    obtain ⟨hO5, e5⟩ := hO4.drop1
    rw [rr_0 hl256 (by rw [hg255]; exact UInt8.toNat_inj.1 (by simpa using h18))]
    exact ⟨none, 0, [], rfl, OwnSl.nil _ _, hO5, (e1.trans (e4.trans e5))⟩
  have hm0 : xs.getD 255 0 ≠ 0 := by rw [hg255]; rintro rfl; exact h18 rfl
  refine s_assign (v := .bool _) rfl ?_
  refine s_nil ?_
  refine c_next ?_
  refine c_condF rfl ?_
  refine c_seq ?_
  refine c_reg ?_
  refine s_move (v := .slice _ _ _) rfl ?_
  refine s_idxE Try.underlying33 I5 rfl rfl (by omega) (by omega) (Rd.cs (hR.ext e1)) eB_len (by decide) hx255 ?_
  intro p22 hp22
  refine s_load1 Try.underlying5 rfl rfl (cellP hp22 0 rfl) ?_
  refine c_gtr rfl rfl (fun h24 => ?_) (fun h24 => ?_)
  · skip
    refine s_assign (v := .bool _) rfl ?_
    refine s_nil ?_
    refine c_next ?_
    refine c_condT rfl ?_
    refine c_seq ?_
    refine c_reg ?_
    refine s_build (vs := []) (cells := #[_, _, _]) I84 pl84 rfl rfl ?_
    refine s_storeN I84 rfl rfl rfl hO1 (i := 0) rfl (Nat.le_of_ble_eq_true rfl) (List.all_eq_true.1 rfl) ?_
    intro w6 hO6 e6
    refine s_assign (v := .int _ _) rfl ?_
    refine s_nil ?_
    refine c_next ?_
    refine c_ret ?_
    refine r_block ?_
    refine r_then ?_
    refine e_r2 Try.results36 (rv_agg Try.underlying84 rfl I84 rfl (hO6.get (i := 0) rfl) rfl rfl) (rv_tmp (v := .int _ _) rfl) ?_
    obtain ⟨hO7, e7⟩ := hO6.drop1
    rw [rr_6 hl256 hm0 (by rw [hg255]; omega)]
    exact ⟨none, 0, [], rfl, OwnSl.nil _ _, hO7, (e1.trans (e6.trans e7))⟩
  have hm1 : ¬ (xs.getD 255 0).toNat > 1 := by rw [hg255]; omega
  refine s_assign (v := .bool _) rfl ?_
  refine s_nil ?_
  refine c_next ?_
  refine c_condF rfl ?_
  refine c_seq ?_
  refine d_startL hO1 hO1 8 (by kernel_rfl) (pk_then (pk_block (pk_then pk_body))) ?_
  intro hP9 wd9 hK9 hO8 e8
  refine d_take (i := 0) (listed' := #[true, false, false, false, false, false, false, false]) (by rfl) (by kernel_rfl) (by rfl) hP9.t rfl hK9 (fun wS hS => r_move (v := .slice _ _ _) rfl) ?_
  obtain ⟨a28, ha28⟩ : ∃ a' : Option Addr, a' = (if (c : Nat) = 0 then a else (a : Option Addr).map (·.add (0 * 1))) := ⟨_, rfl⟩
  refine d_take (i := 1) (listed' := #[true, true, false, false, false, false, false, false]) (by rfl) (by kernel_rfl) (by rfl) hP9.t rfl hK9 (fun wS hS => r_cutN Try.underlying33 I5 rfl (sb_h (kd := .i64) (h := 251) (c := c) (by decide) (by omega)) ha28) ?_
  have hR28 := (show Rd _ _ a28 (fl eB (xs.take 251)) from by have h_ := Rd.cutE (l := 0) (h := 251) (hR.ext (e1.trans e8)) eB_len (by decide) (by omega) (by omega) ha28; simpa using h_)
  refine d_take (i := 3) (listed' := #[true, true, false, true, false, false, false, false]) (by rfl) (by kernel_rfl) (by rfl) hP9.t rfl hK9 (fun wS hS => r_move (v := .slice _ _ _) rfl) ?_
  obtain ⟨a31, ha31⟩ : ∃ a' : Option Addr, a' = (if (c : Nat) = 251 then a else (a : Option Addr).map (·.add (251 * 1))) := ⟨_, rfl⟩
  refine d_take (i := 4) (listed' := #[true, true, false, true, true, false, false, false]) (by rfl) (by kernel_rfl) (by rfl) hP9.t rfl hK9 (fun wS hS => r_cutN Try.underlying33 I5 rfl (sb_lh (kd := .i64) (kd' := .i64) (l := 251) (h := 255) (c := c) (by decide) (by decide) (by omega)) ha31) ?_
  have hR31 := (show Rd _ _ a31 (fl eB ((xs.drop 251).take 4)) from Rd.cutE (l := 251) (h := 255) (hR.ext (e1.trans e8)) eB_len (by decide) (by omega) (by omega) ha31)
  refine d_one (i := 2) (listed' := #[true, true, true, true, true, false, false, false]) (by rfl) (by kernel_rfl) (by rfl) ?_
  refine s_call cf62 rfl (record_sums _ _ (xs.take 251) 251 (by rw [List.length_take]; omega) (by decide) _ _ hR28 hO8) ?_
  rintro er29 w10 ⟨as_, Ss, rfl, hSs, hO10, e10⟩
  refine ⟨_, rfl, ?_⟩
  have hRs := (hSs.drop hO10).2.2
  obtain ⟨hO11, e11⟩ := hO10.dropS
  have hK12 : Kept w1 _ _ w10 := Kept.to (e8.trans (e10.trans e11)) hO11
  refine d_back hK12 ?_
  refine d_one (i := 5) (listed' := #[true, true, true, true, true, true, false, false]) (by rfl) (by kernel_rfl) (by rfl) ?_
  refine s_call cf65 rfl (equalB _ _ _ _ (sum4 (crcMore 0 (xs.take 251))) ((xs.drop 251).take 4) 4 4 rfl (by rw [List.length_take, List.length_drop]; omega) _ _ hRs (hR31.ext (e10.trans e11)) (by decide) hO11) ?_
  rintro er32 w13 ⟨be, rfl, hbe, hO13, e13⟩
  cases be with
  | true =>
    have heq := hbe.1 rfl
    refine ⟨_, rfl, ?_⟩
    have hK14 : Kept w1 _ _ w13 := Kept.to (e8.trans (e10.trans (e11.trans e13))) hO13
    refine d_back hK14 ?_
    refine d_take (i := 6) (listed' := #[true, true, true, true, true, true, true, false]) (by rfl) (by kernel_rfl) (by rfl) hP9.t rfl hK14 (fun wS hS => r_not rfl) ?_
    refine d_take (i := 7) (listed' := #[true, true, true, true, true, true, true, true]) (by rfl) (by kernel_rfl) (by rfl) hP9.t rfl hK14 (fun wS hS => r_assign (v := .bool _) rfl) ?_
    refine d_done (by kernel_rfl) ?_
    refine c_next ?_
    refine c_condF rfl ?_
    refine c_skip ?_
    refine x_norm ?_
    refine c_next ?_
    refine c_seq ?_
    refine c_reg ?_
    refine s_move (v := .slice _ _ _) rfl ?_
    refine s_cut Try.underlying33 I5 rfl (sb_h (by decide) (by omega)) ?_
    intro a37 ha37
    have hR37 := (show Rd _ _ a37 (fl eB (xs.take 8)) from by have h_ := Rd.cutE (l := 0) (h := 8) (hR.ext (e1.trans (e8.trans (e10.trans (e11.trans e13))))) eB_len (by decide) (by omega) (by omega) ha37; simpa using h_)
    refine s_call cf66 rfl (word_Get8 _ _ (xs.take 8) (by rw [List.length_take]; omega) _ _ hR37 hO13) ?_
    rintro er38 w15 ⟨rfl, hO15, e15⟩
    refine ⟨_, rfl, ?_⟩
    refine s_move (v := .tuple _) rfl ?_
    refine s_extract (v := .int _ _) rfl rfl ?_
    refine s_extract (v := .int _ _) rfl rfl ?_
    refine s_assign (v := .int _ _) rfl ?_
    refine s_assign (v := .int _ _) rfl ?_
    refine s_nil ?_
    refine c_next ?_
    refine c_seq ?_
    refine c_reg ?_
    refine s_move (v := .slice _ _ _) rfl ?_
    refine s_cut Try.underlying33 I5 rfl (sb_lh (by decide) (by decide) (by omega)) ?_
    intro a43 ha43
    have hR43 := (show Rd _ _ a43 (fl eB ((xs.drop 8).take 8)) from Rd.cutE (l := 8) (h := 16) (hR.ext (e1.trans (e8.trans (e10.trans (e11.trans (e13.trans e15)))))) eB_len (by decide) (by omega) (by omega) ha43)
    refine s_call cf66 rfl (word_Get8 _ _ ((xs.drop 8).take 8) (by rw [List.length_take, List.length_drop]; omega) _ _ hR43 hO15) ?_
    rintro er44 w16 ⟨rfl, hO16, e16⟩
    refine ⟨_, rfl, ?_⟩
    refine s_move (v := .tuple _) rfl ?_
    refine s_extract (v := .int _ _) rfl rfl ?_
    refine s_extract (v := .int _ _) rfl rfl ?_
    refine s_assign (v := .int _ _) rfl ?_
    refine s_assign (v := .int _ _) rfl ?_
    refine s_nil ?_
    refine c_next ?_
    refine c_seq ?_
    refine c_reg ?_
    refine s_move (v := .slice _ _ _) rfl ?_
    refine s_idxE Try.underlying33 I5 rfl rfl (by omega) (by omega) (Rd.cs (hR.ext (e1.trans (e8.trans (e10.trans (e11.trans (e13.trans (e15.trans e16)))))))) eB_len (by decide) hx16 ?_
    intro p48 hp48
    refine s_load1 Try.underlying5 rfl rfl (cellP hp48 0 rfl) ?_
    refine s_convI Try.underlying5 Try.underlying3 rfl (by omega) (by omega) ?_
    refine s_assign (v := .int _ _) rfl ?_
    refine s_nil ?_
    refine c_next ?_
    refine c_seq ?_
    refine c_seq ?_
    refine c_reg ?_
    refine s_move (v := .int _ _) rfl ?_
    refine c_geq rfl rfl (fun h52 => ?_) (fun h52 => ?_)
    · skip
      refine s_move (v := .bool _) rfl ?_
      refine g_skip 53 (by rfl) (by rfl) (by rfl) ?_
      refine g_skip 53 (by rfl) (by rfl) (by rfl) ?_
      refine s_pickT (v := .bool _) rfl rfl ?_
      refine s_move (v := .bool _) rfl ?_
      refine g_skip 57 (by rfl) (by rfl) (by rfl) ?_
      refine g_skip 57 (by rfl) (by rfl) (by rfl) ?_
      refine s_pickT (v := .bool _) rfl rfl ?_
      refine s_move (v := .bool _) rfl ?_
      refine g_skip 61 (by rfl) (by rfl) (by rfl) ?_
      refine g_skip 61 (by rfl) (by rfl) (by rfl) ?_
      refine g_skip 61 (by rfl) (by rfl) (by rfl) ?_
      refine g_skip 61 (by rfl) (by rfl) (by rfl) ?_
      refine g_skip 61 (by rfl) (by rfl) (by rfl) ?_
      refine s_pickT (v := .bool _) rfl rfl ?_
      refine s_nil ?_
      refine c_next ?_
      refine c_condT rfl ?_
      refine c_seq ?_
      refine c_reg ?_
      refine s_build (vs := []) (cells := #[_, _, _]) I84 pl84 rfl rfl ?_
      refine s_storeN I84 rfl rfl rfl hO16 (i := 0) rfl (Nat.le_of_ble_eq_true rfl) (List.all_eq_true.1 rfl) ?_
      intro w17 hO17 e17
      refine s_assign (v := .int _ _) rfl ?_
      refine s_nil ?_
      refine c_next ?_
      refine c_ret ?_
      refine r_then ?_
      refine e_r2 Try.results36 (rv_agg Try.underlying84 rfl I84 rfl (hO17.get (i := 0) rfl) rfl rfl) (rv_tmp (v := .int _ _) rfl) ?_
      obtain ⟨hO18, e18⟩ := hO17.drop1
      rw [rr_b hl256 hm0 hm1 heq (by left; omega)]
      exact ⟨none, 0, [], rfl, OwnSl.nil _ _, hO18, (e1.trans (e8.trans (e10.trans (e11.trans (e13.trans (e15.trans (e16.trans (e17.trans e18))))))))⟩
    refine s_move (v := .bool _) rfl ?_
    refine g_do 53 (by rfl) (by rfl) ?_
    refine s_move (v := .int _ _) rfl ?_
    refine g_do 53 (by rfl) (by rfl) ?_
    refine c_geq rfl rfl (fun h55 => ?_) (fun h55 => ?_)
    · skip
      refine s_pickF (v := .bool _) rfl rfl ?_
      refine s_move (v := .bool _) rfl ?_
      refine g_skip 57 (by rfl) (by rfl) (by rfl) ?_
      refine g_skip 57 (by rfl) (by rfl) (by rfl) ?_
      refine s_pickT (v := .bool _) rfl rfl ?_
      refine s_move (v := .bool _) rfl ?_
      refine g_skip 61 (by rfl) (by rfl) (by rfl) ?_
      refine g_skip 61 (by rfl) (by rfl) (by rfl) ?_
      refine g_skip 61 (by rfl) (by rfl) (by rfl) ?_
      refine g_skip 61 (by rfl) (by rfl) (by rfl) ?_
      refine g_skip 61 (by rfl) (by rfl) (by rfl) ?_
      refine s_pickT (v := .bool _) rfl rfl ?_
      refine s_nil ?_
      refine c_next ?_
      refine c_condT rfl ?_
      refine c_seq ?_
      refine c_reg ?_
      refine s_build (vs := []) (cells := #[_, _, _]) I84 pl84 rfl rfl ?_
      refine s_storeN I84 rfl rfl rfl hO16 (i := 0) rfl (Nat.le_of_ble_eq_true rfl) (List.all_eq_true.1 rfl) ?_
      intro w19 hO19 e19
      refine s_assign (v := .int _ _) rfl ?_
      refine s_nil ?_
      refine c_next ?_
      refine c_ret ?_
      refine r_then ?_
      refine e_r2 Try.results36 (rv_agg Try.underlying84 rfl I84 rfl (hO19.get (i := 0) rfl) rfl rfl) (rv_tmp (v := .int _ _) rfl) ?_
      obtain ⟨hO20, e20⟩ := hO19.drop1
      rw [rr_b hl256 hm0 hm1 heq (by right; left; omega)]
      exact ⟨none, 0, [], rfl, OwnSl.nil _ _, hO20, (e1.trans (e8.trans (e10.trans (e11.trans (e13.trans (e15.trans (e16.trans (e19.trans e20))))))))⟩
    refine s_pickF (v := .bool _) rfl rfl ?_
    refine s_move (v := .bool _) rfl ?_
    refine g_do 57 (by rfl) (by rfl) ?_
    refine s_move (v := .int _ _) rfl ?_
    refine g_do 57 (by rfl) (by rfl) ?_
    refine c_gtr rfl rfl (fun h59 => ?_) (fun h59 => ?_)
    · skip
      refine s_pickF (v := .bool _) rfl rfl ?_
      refine s_move (v := .bool _) rfl ?_
      refine g_skip 61 (by rfl) (by rfl) (by rfl) ?_
      refine g_skip 61 (by rfl) (by rfl) (by rfl) ?_
      refine g_skip 61 (by rfl) (by rfl) (by rfl) ?_
      refine g_skip 61 (by rfl) (by rfl) (by rfl) ?_
      refine g_skip 61 (by rfl) (by rfl) (by rfl) ?_
      refine s_pickT (v := .bool _) rfl rfl ?_
      refine s_nil ?_
      refine c_next ?_
      refine c_condT rfl ?_
      refine c_seq ?_
      refine c_reg ?_
      refine s_build (vs := []) (cells := #[_, _, _]) I84 pl84 rfl rfl ?_
      refine s_storeN I84 rfl rfl rfl hO16 (i := 0) rfl (Nat.le_of_ble_eq_true rfl) (List.all_eq_true.1 rfl) ?_
      intro w21 hO21 e21
      refine s_assign (v := .int _ _) rfl ?_
      refine s_nil ?_
      refine c_next ?_
      refine c_ret ?_
      refine r_then ?_
      refine e_r2 Try.results36 (rv_agg Try.underlying84 rfl I84 rfl (hO21.get (i := 0) rfl) rfl rfl) (rv_tmp (v := .int _ _) rfl) ?_
      obtain ⟨hO22, e22⟩ := hO21.drop1
      rw [rr_b hl256 hm0 hm1 heq (by right; right; left; rw [hg16]; omega)]
      exact ⟨none, 0, [], rfl, OwnSl.nil _ _, hO22, (e1.trans (e8.trans (e10.trans (e11.trans (e13.trans (e15.trans (e16.trans (e21.trans e22))))))))⟩
    refine s_pickF (v := .bool _) rfl rfl ?_
    refine s_move (v := .bool _) rfl ?_
    refine g_do 61 (by rfl) (by rfl) ?_
    refine s_move (v := .slice _ _ _) rfl ?_
    refine g_do 61 (by rfl) (by rfl) ?_
    refine s_move (v := .int _ _) rfl ?_
    refine g_do 61 (by rfl) (by rfl) ?_
    refine s_add rfl rfl (by omega) (by omega) ?_
    refine g_do 61 (by rfl) (by rfl) ?_
    refine s_cut Try.underlying33 I5 rfl (sb_lh (by omega) (by omega) (by omega)) ?_
    intro a65 ha65
    rw [show ((17 : Int) + (x16.toNat : Int)).toNat = 17 + x16.toNat by omega] at ha65
    have hR65 := (show Rd _ _ a65 (fl eB ((xs.drop (17 + x16.toNat)).take (251 - (17 + x16.toNat)))) from Rd.cutE (l := 17 + x16.toNat) (h := 251) (hR.ext (e1.trans (e8.trans (e10.trans (e11.trans (e13.trans (e15.trans e16))))))) eB_len (by omega) (by omega) (by omega) ha65)
    refine g_do 61 (by rfl) (by rfl) ?_
    refine s_call cf67 rfl (containsNZ _ _ ((xs.drop (17 + x16.toNat)).take (251 - (17 + x16.toNat))) _ (by rw [List.length_take, List.length_drop]; omega) (by omega) _ _ hR65 hO16) ?_
    rintro er66 w23 ⟨bz, rfl, hbz, hO23, e23⟩
    cases bz with
    | true =>
      have hnz := hbz.1 rfl
      refine ⟨_, rfl, ?_⟩
      refine s_pickF (v := .bool _) rfl rfl ?_
      refine s_nil ?_
      refine c_next ?_
      refine c_condT rfl ?_
      refine c_seq ?_
      refine c_reg ?_
      refine s_build (vs := []) (cells := #[_, _, _]) I84 pl84 rfl rfl ?_
      refine s_storeN I84 rfl rfl rfl hO23 (i := 0) rfl (Nat.le_of_ble_eq_true rfl) (List.all_eq_true.1 rfl) ?_
      intro w24 hO24 e24
      refine s_assign (v := .int _ _) rfl ?_
      refine s_nil ?_
      refine c_next ?_
      refine c_ret ?_
      refine r_then ?_
      refine e_r2 Try.results36 (rv_agg Try.underlying84 rfl I84 rfl (hO24.get (i := 0) rfl) rfl rfl) (rv_tmp (v := .int _ _) rfl) ?_
      obtain ⟨hO25, e25⟩ := hO24.drop1
      rw [rr_b hl256 hm0 hm1 heq (by right; right; right; rw [hg16]; exact hnz)]
      exact ⟨none, 0, [], rfl, OwnSl.nil _ _, hO25, (e1.trans (e8.trans (e10.trans (e11.trans (e13.trans (e15.trans (e16.trans (e23.trans (e24.trans e25)))))))))⟩
    | false =>
      have hnz : ¬ (∃ x, _) := fun h => by simpa using hbz.2 h
      refine ⟨_, rfl, ?_⟩
      refine s_pickF (v := .bool _) rfl rfl ?_
      refine s_nil ?_
      refine c_next ?_
      refine c_condF rfl ?_
      refine c_skip ?_
      refine c_next ?_
      refine c_seq ?_
      refine c_reg ?_
      refine s_move (v := .int _ _) rfl ?_
      refine s_convI Try.underlying117 Try.underlying3 rfl (by omega) (by omega) ?_
      refine s_move (v := .int _ _) rfl ?_
      refine s_convI Try.underlying117 Try.underlying3 rfl (by omega) (by omega) ?_
      refine s_move (v := .slice _ _ _) rfl ?_
      refine s_move (v := .int _ _) rfl ?_
      refine s_add rfl rfl (by omega) (by omega) ?_
      refine s_cut Try.underlying33 I5 rfl (sb_lh (by decide) (by omega) (by omega)) ?_
      intro a76 ha76
      rw [show ((17 : Int) + (x16.toNat : Int)).toNat = 17 + x16.toNat by omega]
      have hR76 := (show Rd _ _ a76 (fl eB ((xs.drop 17).take x16.toNat)) from by have h_ := Rd.cutE (l := 17) (h := 17 + x16.toNat) (hR.ext (e1.trans (e8.trans (e10.trans (e11.trans (e13.trans (e15.trans (e16.trans e23)))))))) eB_len (by omega) (by omega) (by omega) ha76; rwa [Nat.add_sub_cancel_left] at h_)
      refine s_call cf64 rfl (cloneB _ _ ((xs.drop 17).take x16.toNat) _ (by rw [List.length_take, List.length_drop]; omega) _ _ hR76 (by omega) hO23) ?_
      rintro er77 w26 ⟨a', c', S', rfl, hS', hO26, e26⟩
      refine ⟨_, rfl, ?_⟩
      refine s_build (vs := [(0, _), (1, _), (2, _)]) (cells := #[_, _, _]) I84 pl84 rfl rfl ?_
      obtain ⟨hO28, e28⟩ := hO26.permE (pmbA pmb0)
      refine s_storeN I84 rfl rfl rfl hO28 (i := 0) rfl (Nat.le_of_ble_eq_true rfl) (List.all_eq_true.1 rfl) ?_
      intro w27 hO27 e27
      refine s_assign (v := .int _ _) rfl ?_
      refine s_nil ?_
      refine c_next ?_
      refine c_ret ?_
      refine e_r2 Try.results36 (rv_agg Try.underlying84 rfl I84 rfl (hO27.get (i := 0) rfl) rfl rfl) (rv_tmp (v := .int _ _) rfl) ?_
      obtain ⟨hO29, e29⟩ := hO27.drop1
      rw [rr_ok hl256 hm0 hm1 heq (fun h => by rcases h with h | h | h | h; omega; omega; rw [hg16] at h; omega; rw [hg16] at h; exact hnz h), hg16]
      have hdl : ((xs.drop 17).take x16.toNat).length = x16.toNat := by rw [List.length_take, List.length_drop]; omega
      rw [show 17 + x16.toNat - Int.toNat 17 = x16.toNat from Nat.add_sub_cancel_left ..] at hS'
      exact ⟨a', c', S', (by show Ending.returned (Value.tuple #[.agg #[_, _, .slice a' (17 + x16.toNat - 17) c'], _]) = _; rw [Nat.add_sub_cancel_left]; show _ = Ending.returned (Value.tuple #[.agg #[_, _, .slice a' ((xs.drop 17).take x16.toNat).length c'], _]); rw [hdl]; rfl), (by show OwnSl _ _ _ ((xs.drop 17).take x16.toNat).length _ _ _; rw [hdl]; exact hS'), hO29, (e1.trans (e8.trans (e10.trans (e11.trans (e13.trans (e15.trans (e16.trans (e23.trans (e26.trans (e28.trans (e27.trans e29)))))))))))⟩
  | false =>
    have heq : ¬ (_ = _) := fun h => by simpa using hbe.2 h
    refine ⟨_, rfl, ?_⟩
    have hK30 : Kept w1 _ _ w13 := Kept.to (e8.trans (e10.trans (e11.trans e13))) hO13
    refine d_back hK30 ?_
    refine d_take (i := 6) (listed' := #[true, true, true, true, true, true, true, false]) (by rfl) (by kernel_rfl) (by rfl) hP9.t rfl hK30 (fun wS hS => r_not rfl) ?_
    refine d_take (i := 7) (listed' := #[true, true, true, true, true, true, true, true]) (by rfl) (by kernel_rfl) (by rfl) hP9.t rfl hK30 (fun wS hS => r_assign (v := .bool _) rfl) ?_
    refine d_done (by kernel_rfl) ?_
    refine c_next ?_
    refine c_condT rfl ?_
    refine c_seq ?_
    refine c_reg ?_
    refine s_build (vs := []) (cells := #[_, _, _]) I84 pl84 rfl rfl ?_
    refine s_storeN I84 rfl rfl rfl hO13 (i := 0) rfl (Nat.le_of_ble_eq_true rfl) (List.all_eq_true.1 rfl) ?_
    intro w31 hO31 e31
    refine s_assign (v := .int _ _) rfl ?_
    refine s_nil ?_
    refine c_next ?_
    refine c_ret ?_
    refine r_block ?_
    refine r_then ?_
    refine e_r2 Try.results36 (rv_agg Try.underlying84 rfl I84 rfl (hO31.get (i := 0) rfl) rfl rfl) (rv_tmp (v := .int _ _) rfl) ?_
    obtain ⟨hO32, e32⟩ := hO31.drop1
    rw [rr_21 hl256 hm0 hm1 heq]
    exact ⟨none, 0, [], rfl, OwnSl.nil _ _, hO32, (e1.trans (e8.trans (e10.trans (e11.trans (e13.trans (e31.trans e32))))))⟩
end Go.Proofs.Ytpjojocckoobeaa
