/- A part of the proof that the row of the law holds of the program as translated: lemmas and contracts of its functions. -/
import Derived.Test.YtpjojocckoobeaaProg
import Derived.Test.YtpjojocckoobeaaPlain23
set_option linter.unusedVariables false
set_option linter.unusedSimpArgs false
set_option maxRecDepth 10000
namespace Go.Proofs.Ytpjojocckoobeaa
open Go.GV Go.RowKit
attribute [local irreducible] wpList
theorem cf7 : ∀ (args : Array Value) (w : World), (callFunc 7 args).run Try.prog w = .ok (.enter 7 args) w := cf_of Try.func7 (by kernel_rfl) rfl
theorem cf8 : ∀ (args : Array Value) (w : World), (callFunc 8 args).run Try.prog w = .ok (.enter 8 args) w := cf_of Try.func8 (by kernel_rfl) rfl
theorem cf9 : ∀ (args : Array Value) (w : World), (callFunc 9 args).run Try.prog w = .ok (.enter 9 args) w := cf_of Try.func9 (by kernel_rfl) rfl
theorem cf10 : ∀ (args : Array Value) (w : World), (callFunc 10 args).run Try.prog w = .ok (.enter 10 args) w := cf_of Try.func10 (by kernel_rfl) rfl
theorem cf11 : ∀ (args : Array Value) (w : World), (callFunc 11 args).run Try.prog w = .ok (.enter 11 args) w := cf_of Try.func11 (by kernel_rfl) rfl
theorem cf12 : ∀ (args : Array Value) (w : World), (callFunc 12 args).run Try.prog w = .ok (.enter 12 args) w := cf_of Try.func12 (by kernel_rfl) rfl
theorem cf13 : ∀ (args : Array Value) (w : World), (callFunc 13 args).run Try.prog w = .ok (.enter 13 args) w := cf_of Try.func13 (by kernel_rfl) rfl
theorem cf14 : ∀ (args : Array Value) (w : World), (callFunc 14 args).run Try.prog w = .ok (.enter 14 args) w := cf_of Try.func14 (by kernel_rfl) rfl


theorem RdAll.take {w : World} {L : Hp} {vs : List Value} {bss : List (List UInt8)} (h : RdAll w L vs bss) (k : Nat) : RdAll w L (vs.take k) (bss.take k) :=
  ⟨by rw [List.length_take, List.length_take, h.1], fun i v bs h1 h2 => by
    have hi := (List.getElem?_eq_some_iff.1 h1).1
    rw [List.length_take] at hi
    rw [List.getElem?_take_of_lt (by omega)] at h1 h2
    exact h.2 i v bs h1 h2⟩
def awakeD : DS := ⟨(List.replicate 3 zeros256).set 1 (marked (makeB 1 0 [97]) true), [], [], false, -1⟩
theorem awake_append : DS.append ⟨List.replicate 3 zeros256, [], [], false, -1⟩ 1 2 1 0 [97] = (awakeD, 0) := by
  rcases append_up (bl := List.replicate 3 zeros256) (left := -1) (fr := 1) (q := 1) (n := 2) (i := 0) (gen := 1) (data := [97]) (O := zeros256) rfl (by decide) (by decide) (by decide) (by decide) rfl (by simp [zeros256]) with ⟨l', h1, h2⟩ | ⟨h1, _⟩
  · rw [show ((1 : Nat) : Int) = 1 from rfl, show ((0 : Nat) : Int) = 0 from rfl] at h2
    rw [h2, h1 rfl]
    rfl
  · exact absurd rfl h1
theorem awake_scan : awakeD.scan 1 1 2 0 [] = ([[97]], 0) := by
  have h1 := scan_next (bl := (List.replicate 3 zeros256).set 1 (marked (makeB 1 0 [97]) true)) (left := -1) (fr := 1) (g := 1) (k := 1) (i := 0) (data := [97]) (acc := []) (by decide) (by decide) (by decide) rfl
  have h2 := scan_stop (bl := (List.replicate 3 zeros256).set 1 (marked (makeB 1 0 [97]) true)) (left := -1) (fr := 1) (g := 1) (k := 0) (i := 1) (acc := [[97]]) (b := zeros256) rfl (stop_zero (by simp [zeros256]) (by decide))
  exact h1.trans h2
theorem DiskAt.rest {w : World} {L : Hp} {p : Nat} {d : DS} {gs : List Nat} {F : Hp} (h : DiskAt w L p d gs F) (hO : Own w L) : Own w F ∧ Ext w L w F := by
  obtain ⟨ab, cb, aw, cw, ax, cx, vw, Sw, rfl, _⟩ := h
  exact ⟨hO.t.r.r, (Ext.drop1 w _ _).trans ((Ext.dropL w _ _).trans (Ext.dropL w _ _))⟩
theorem takeL_succ {xs ys : List (List UInt8)} {k : Nat} {x y : List UInt8} (h : xs.take k = ys.take k) (hx : xs[k]? = some x) (hy : ys[k]? = some y) (he : x = y) : xs.take (k + 1) = ys.take (k + 1) := by
  rw [List.take_add_one, List.take_add_one, h, hx, hy, he]


theorem ref23_Same (a : Option Addr) (c : Nat) (vs : List Value) (xs : List (List UInt8)) (m : Nat) (hxm : xs.length = m) (a2 : Option Addr) (c2 : Nat) (us : List Value) (ys : List (List UInt8)) (m2 : Nat) (hym : ys.length = m2) (hm : m ≤ 1000000000000) (w : World) (L : Hp)
    (hR : Rd w L a (fl eS vs)) (hA : RdAll w L vs xs) (hR2 : Rd w L a2 (fl eS us)) (hA2 : RdAll w L us ys) (hO : Own w L) :
    Calls Try.prog 14 #[.slice a m c, .slice a2 m2 c2] w fun en w' => ∃ b, en = .returned (.bool b) ∧ (b = true ↔ xs = ys) ∧ Own w' L ∧ Ext w L w' L := by
  subst hxm
  subst hym
  refine enter (n := 28) _ Try.func14 rfl Try.ntmps14 (by simp) ?_
  refine c_seq ?_
  refine c_reg ?_
  refine s_assign (v := .bool _) rfl ?_
  refine s_nil ?_
  refine c_next ?_
  refine c_seq ?_
  refine c_seq ?_
  refine c_reg ?_
  refine s_move (v := .slice _ _ _) rfl ?_
  refine s_len Try.underlying22 rfl ?_
  refine s_move (v := .slice _ _ _) rfl ?_
  refine s_len Try.underlying22 rfl ?_
  refine c_neq rfl rfl (fun h10 => ?_) (fun h10 => ?_)
  · skip
    refine s_nil ?_
    refine c_next ?_
    refine c_condT rfl ?_
    refine c_seq ?_
    refine c_reg ?_
    refine s_assign (v := .bool _) rfl ?_
    refine s_nil ?_
    refine c_next ?_
    refine c_ret ?_
    refine r_then ?_
    refine e_1 (v := .bool _) Try.results14 rfl ?_
    exact ⟨false, rfl, by simp only [Bool.false_eq_true, false_iff]; intro h; rw [h] at h10; exact h10 rfl, hO, (Ext.refl _ _)⟩
  refine s_nil ?_
  refine c_next ?_
  refine c_condF rfl ?_
  refine c_skip ?_
  refine c_next ?_
  refine c_seq ?_
  refine c_seq ?_
  refine c_reg ?_
  refine s_assign (v := .int _ _) rfl ?_
  refine s_nil ?_
  refine c_next ?_
  refine c_block ?_
  refine c_loopL hO (fun Lc f0 m g wl => ∃ (k : Nat), (m = xs.length - k) ∧ (g 5 = .int .i64 (k : Int)) ∧ (g 0 = f0 0) ∧ (g 1 = f0 1) ∧ (k ≤ xs.length) ∧ (xs.take k = ys.take k) ∧ (Own wl (Lc)) ∧ (Ext w Lc wl (Lc))) (xs.length - 0) ?_ ?_
  · refine ⟨0, rfl, (by first | rfl | (simp; done)), rfl, rfl, by omega, rfl, hO, (Ext.refl _ _)⟩
  intro m1 g1 w1 hI1
  obtain ⟨k, hm1, hs1_5, hs1_0, hs1_1, hk, heq, hO1, e1⟩ := hI1
  obtain ⟨q1, rfl⟩ := fr3 hs1_5 hs1_0 hs1_1
  clear hs1_5 hs1_0 hs1_1
  refine c_seq ?_
  refine c_seq ?_
  refine c_reg ?_
  refine s_move (v := .int _ _) rfl ?_
  refine s_move (v := .slice _ _ _) rfl ?_
  refine s_len Try.underlying22 rfl ?_
  refine c_lss rfl rfl (fun h14 => ?_) (fun h14 => ?_)
  · skip
    obtain ⟨x, hx⟩ : ∃ x, xs[k]? = some x := ⟨xs[k]'(by omega), by simp⟩
    obtain ⟨y, hy⟩ : ∃ y, ys[k]? = some y := ⟨ys[k]'(by omega), by simp⟩
    obtain ⟨ak, ck, hvk, hRk, hck⟩ := RdAll.get (hA.ext e1) hx
    obtain ⟨al, cl, hvl, hRl, hcl⟩ := RdAll.get (hA2.ext e1) hy
    refine s_nil ?_
    refine c_next ?_
    refine c_condT rfl ?_
    refine c_skip ?_
    refine c_next ?_
    refine c_seq ?_
    refine c_block ?_
    refine c_seq ?_
    refine d_startK hO1 11 (by kernel_rfl) (pk_then (pk_block (pk_then (pk_then (pk_block (pk_then pk_body)))))) ?_
    intro hP3 wd3 hK3 hO2 e2
    refine d_take (i := 0) (listed' := #[true, false, false, false, false, false, false, false, false, false, false]) (by rfl) (by kernel_rfl) (by rfl) hP3.t rfl hK3 (fun wS hS => r_move (v := .slice _ _ _) rfl) ?_
    refine d_take (i := 1) (listed' := #[true, true, false, false, false, false, false, false, false, false, false]) (by rfl) (by kernel_rfl) (by rfl) hP3.t rfl hK3 (fun wS hS => r_move (v := .int _ _) rfl) ?_
    obtain ⟨ad19, had19, hk19⟩ := idx_getE (Rd.cs (hR.ext (e1.trans e2))) eS_len (by decide) hvk
    subst had19
    refine d_take (i := 2) (listed' := #[true, true, true, false, false, false, false, false, false, false, false]) (by rfl) (by kernel_rfl) (by rfl) hP3.t rfl hK3 (fun wS hS => r_idx Try.underlying22 I33 rfl rfl (by omega) (by omega)) ?_
    refine d_take (i := 3) (listed' := #[true, true, true, true, false, false, false, false, false, false, false]) (by rfl) (by kernel_rfl) (by rfl) hP3.t rfl hK3 (fun wS hS => r_load1 Try.underlying33 rfl rfl (cellP (hk19 _ ((hR.ext e1).kept hS)) 0 rfl)) ?_
    refine d_take (i := 4) (listed' := #[true, true, true, true, true, false, false, false, false, false, false]) (by rfl) (by kernel_rfl) (by rfl) hP3.t rfl hK3 (fun wS hS => r_b2s Try.underlying33 Try.underlying5 Try.underlying9 rfl (hRk.kept hS)) ?_
    refine d_take (i := 5) (listed' := #[true, true, true, true, true, true, false, false, false, false, false]) (by rfl) (by kernel_rfl) (by rfl) hP3.t rfl hK3 (fun wS hS => r_move (v := .slice _ _ _) rfl) ?_
    refine d_take (i := 6) (listed' := #[true, true, true, true, true, true, true, false, false, false, false]) (by rfl) (by kernel_rfl) (by rfl) hP3.t rfl hK3 (fun wS hS => r_move (v := .int _ _) rfl) ?_
    obtain ⟨ad24, had24, hk24⟩ := idx_getE (Rd.cs (hR2.ext (e1.trans e2))) eS_len (by decide) hvl
    subst had24
    refine d_take (i := 7) (listed' := #[true, true, true, true, true, true, true, true, false, false, false]) (by rfl) (by kernel_rfl) (by rfl) hP3.t rfl hK3 (fun wS hS => r_idx Try.underlying22 I33 rfl rfl (by omega) (by omega)) ?_
    refine d_take (i := 8) (listed' := #[true, true, true, true, true, true, true, true, true, false, false]) (by rfl) (by kernel_rfl) (by rfl) hP3.t rfl hK3 (fun wS hS => r_load1 Try.underlying33 rfl rfl (cellP (hk24 _ ((hR2.ext e1).kept hS)) 0 rfl)) ?_
    refine d_take (i := 9) (listed' := #[true, true, true, true, true, true, true, true, true, true, false]) (by rfl) (by kernel_rfl) (by rfl) hP3.t rfl hK3 (fun wS hS => r_b2s Try.underlying33 Try.underlying5 Try.underlying9 rfl (hRl.kept hS)) ?_
    refine dt_strNe (i := 10) (listed' := #[true, true, true, true, true, true, true, true, true, true, true]) (by rfl) (by kernel_rfl) (by rfl) hP3.u rfl hK3 rfl rfl (fun h27 => ?_) (fun h27 => ?_)
    · skip
      refine d_done (by kernel_rfl) ?_
      refine c_next ?_
      refine c_condT rfl ?_
      refine c_seq ?_
      refine c_reg ?_
      refine s_assign (v := .bool _) rfl ?_
      refine s_nil ?_
      refine c_next ?_
      refine c_ret ?_
      refine r_block ?_
      refine r_then ?_
      refine r_then ?_
      refine r_block ?_
      refine r_then ?_
      refine e_1 (v := .bool _) Try.results14 rfl ?_
      exact ⟨false, rfl, by simp only [Bool.false_eq_true, false_iff]; rintro rfl; rw [hx] at hy; injection hy with hy; subst hy; exact h27 rfl, hO2, (e1.trans e2)⟩
    refine d_done (by kernel_rfl) ?_
    refine c_next ?_
    refine c_condF rfl ?_
    refine c_skip ?_
    refine x_norm ?_
    refine c_next ?_
    refine c_reg ?_
    refine s_move (v := .int _ _) rfl ?_
    refine s_add rfl rfl (by omega) (by omega) ?_
    refine s_assign (v := .int _ _) rfl ?_
    refine s_nil ?_
    refine l_end (m' := xs.length - (k + 1)) (by omega) ?_
    refine ⟨k + 1, rfl, (by first | rfl | (simp; done) | (congr 1; omega)), rfl, rfl, by omega, takeL_succ heq hx hy (strOf_inj.1 h27), hO2, (e1.trans e2)⟩
  refine s_nil ?_
  refine c_next ?_
  refine c_condF rfl ?_
  refine c_exit ?_
  refine x_then ?_
  refine x_then ?_
  refine x_same ?_
  refine c_next ?_
  refine c_seq ?_
  refine c_reg ?_
  refine s_assign (v := .bool _) rfl ?_
  refine s_nil ?_
  refine c_next ?_
  refine c_ret ?_
  refine e_1 (v := .bool _) Try.results14 rfl ?_
  rw [List.take_of_length_le (by omega), List.take_of_length_le (by omega)] at heq
  exact ⟨true, rfl, by simp only [true_iff]; exact heq, hO1, e1⟩

theorem law23_awake (w : World) (L : Hp) (hO : Own w L) : Calls Try.prog 7 #[] w fun en w' => en = .returned (.bool true) ∧ Own w' L ∧ Ext w L w' L := by
  refine enter (n := 54) _ Try.func7 rfl Try.ntmps7 (by simp) ?_
  refine c_seq ?_
  refine c_reg ?_
  refine s_assign (v := .bool _) rfl ?_
  refine s_nil ?_
  refine c_next ?_
  refine c_seq ?_
  refine c_reg ?_
  refine s_call cf8 rfl (disk_New 3 (by decide) none 0 [] (by decide) _ _ (Rd.nil _ _ _) hO) ?_
  rintro er8 w1 ⟨p, gs, L1, rfl, hD, hO1, e1⟩
  refine ⟨_, rfl, ?_⟩
  refine s_move (v := .tuple _) rfl ?_
  refine s_extract (v := .pointer _) rfl rfl ?_
  refine s_extract (v := .int _ _) rfl rfl ?_
  refine s_assign (v := .pointer _) rfl ?_
  refine s_assign (v := .int _ _) rfl ?_
  refine s_nil ?_
  refine c_next ?_
  refine c_seq ?_
  refine c_seq ?_
  refine c_reg ?_
  refine s_move (v := .int _ _) rfl ?_
  refine c_neq rfl rfl (fun h12 => ?_) (fun h12 => ?_)
  · exfalso; omega
  refine s_move (v := .bool _) rfl ?_
  refine g_do 13 (by rfl) (by rfl) ?_
  refine s_move (v := .pointer _) rfl ?_
  refine g_do 13 (by rfl) (by rfl) ?_
  refine s_ptr_eql Try.underlying26 rfl rfl ?_
  refine s_pickF (v := .bool _) rfl rfl ?_
  refine s_nil ?_
  refine c_next ?_
  refine c_condF rfl ?_
  refine c_skip ?_
  refine c_next ?_
  refine c_seq ?_
  refine c_reg ?_
  refine s_move (v := .pointer _) rfl ?_
  refine s_call cf9 rfl (journal_New p _ gs _ 1 2 _ _ hD (by decide) (by decide) hO1) ?_
  rintro er19 w2 ⟨j, rfl, hJ, hO2, e2⟩
  refine ⟨_, rfl, ?_⟩
  refine s_move (v := .tuple _) rfl ?_
  refine s_extract (v := .pointer _) rfl rfl ?_
  refine s_extract (v := .int _ _) rfl rfl ?_
  refine s_assign (v := .pointer _) rfl ?_
  refine s_assign (v := .int _ _) rfl ?_
  refine s_nil ?_
  refine c_next ?_
  refine c_seq ?_
  refine c_seq ?_
  refine c_reg ?_
  refine s_move (v := .int _ _) rfl ?_
  refine c_neq rfl rfl (fun h23 => ?_) (fun h23 => ?_)
  · exfalso; omega
  refine s_move (v := .bool _) rfl ?_
  refine g_do 24 (by rfl) (by rfl) ?_
  refine s_move (v := .pointer _) rfl ?_
  refine g_do 24 (by rfl) (by rfl) ?_
  refine s_ptr_eql Try.underlying30 rfl rfl ?_
  refine s_pickF (v := .bool _) rfl rfl ?_
  refine s_move (v := .bool _) rfl ?_
  refine g_do 28 (by rfl) (by rfl) ?_
  refine s_move (v := .pointer _) rfl ?_
  refine g_do 28 (by rfl) (by rfl) ?_
  refine s_bsE (en := eB) (xs := [97]) (vs := [.int _ _]) Try.underlying33 I5 hO2 rfl rfl (by simp [Value.cells]) (by decide) rfl ?_
  intro b30 w3 hz30 hl30 hO3 e3
  refine g_do 28 (by rfl) (by rfl) ?_
  refine s_mark Try.underlying33 Try.underlying5 rfl hO3 (i := 0) rfl ?_
  intro w4 hO4 e4
  have hRl := boxRd hO4
  obtain ⟨hO5, e5⟩ := hO4.drop1
  refine g_do 28 (by rfl) (by rfl) ?_
  refine s_call cf10 rfl (journal_Append p _ gs _ j 1 2 _ _ (hD.ext (e2.trans (e3.trans (e4.trans e5)))) (hJ.ext (e3.trans (e4.trans e5))) (by decide) (by decide) hO5 1 0 _ _ [97] hRl (by decide) (by decide)) ?_
  rintro er32 w6 ⟨L2, rfl, hD2, hO6, e6⟩
  rw [awake_append] at hD2 ⊢
  refine ⟨_, rfl, ?_⟩
  refine g_do 28 (by rfl) (by rfl) ?_
  refine c_neq rfl rfl (fun h33 => ?_) (fun h33 => ?_)
  · exfalso; omega
  refine s_pickF (v := .bool _) rfl rfl ?_
  refine s_nil ?_
  refine c_next ?_
  refine c_condF rfl ?_
  refine c_skip ?_
  refine c_next ?_
  refine c_seq ?_
  refine c_reg ?_
  refine s_move (v := .pointer _) rfl ?_
  refine s_call cf13 rfl (journal_Scan p _ gs _ j 1 2 _ _ hD2 (hJ.ext (e3.trans (e4.trans (e5.trans e6)))) (by decide) (by decide) hO6 1) ?_
  rintro er37 w7 ⟨ax, cx, mx, vx, rfl, hmx, hRx, hAx, hO7, e7⟩
  rw [awake_scan] at hmx hAx ⊢
  obtain rfl : mx = 1 := hmx.symm
  obtain ⟨ak, ck, hvk, hRk, hck⟩ := RdAll.get hAx (show ([[97]] : List (List UInt8))[0]? = some [97] from rfl)
  refine ⟨_, rfl, ?_⟩
  refine s_move (v := .tuple _) rfl ?_
  refine s_extract (v := .slice _ _ _) rfl rfl ?_
  refine s_extract (v := .int _ _) rfl rfl ?_
  refine s_assign (v := .slice _ _ _) rfl ?_
  refine s_assign (v := .int _ _) rfl ?_
  refine s_nil ?_
  refine c_next ?_
  refine c_seq ?_
  refine c_reg ?_
  refine s_move (v := .int _ _) rfl ?_
  refine c_eql rfl rfl (fun h41 => ?_) (fun h41 => ?_)
  refine s_move (v := .bool _) rfl ?_
  refine g_do 42 (by rfl) (by rfl) ?_
  refine s_move (v := .slice _ _ _) rfl ?_
  refine g_do 42 (by rfl) (by rfl) ?_
  refine s_len Try.underlying22 rfl ?_
  refine g_do 42 (by rfl) (by rfl) ?_
  refine c_eql rfl rfl (fun h45 => ?_) (fun h45 => ?_)
  refine s_pickT (v := .bool _) rfl rfl ?_
  refine s_move (v := .bool _) rfl ?_
  refine g_do 47 (by rfl) (by rfl) ?_
  refine s_move (v := .slice _ _ _) rfl ?_
  refine g_do 47 (by rfl) (by rfl) ?_
  refine s_idxE Try.underlying22 I33 rfl rfl (by omega) (by omega) (Rd.cs hRx) eS_len (by decide) hvk ?_
  intro p49 hp49
  refine g_do 47 (by rfl) (by rfl) ?_
  refine s_load1 Try.underlying33 rfl rfl (cellP hp49 0 rfl) ?_
  refine g_do 47 (by rfl) (by rfl) ?_
  refine s_b2s Try.underlying33 Try.underlying5 Try.underlying9 rfl (Rd.cs hRk) ?_
  refine g_do 47 (by rfl) (by rfl) ?_
  refine c_strEq rfl rfl (fun h52 => ?_) (fun h52 => ?_)
  refine s_pickT (v := .bool _) rfl rfl ?_
  refine s_assign (v := .bool _) rfl ?_
  refine s_nil ?_
  refine c_next ?_
  refine c_ret ?_
  refine e_1 (v := .bool _) Try.results7 rfl ?_
  obtain ⟨hOz, ez⟩ := DiskAt.rest (hD2.ext e7) hO7
  exact ⟨rfl, hOz, (e1.trans (e2.trans (e3.trans (e4.trans (e5.trans (e6.trans e7)))))).trans ez⟩
  · exact absurd rfl h52
  · exfalso; omega
  · exfalso; omega

theorem law23_JournalCuts (ae : Option Addr) (ce : Nat) (vse : List Value) (elder : List (List UInt8)) (al : Option Addr) (cl : Nat) (vsl : List Value) (l : List (List UInt8)) (hcl : l.length ≤ cl) (a0 : Option Addr) (c0 : Nat) (p0 : List Int) (a1 : Option Addr) (c1 : Nat) (p1 : List Int)
    (hp0 : ∀ x ∈ p0, x ≤ 9223372036854775807) (w : World) (L : Hp) (hRe : Rd w L ae (fl eS vse)) (hAe : RdAll w L vse elder) (hRl : Rd w L al (fl eS vsl)) (hAl : RdAll w L vsl l) (hR0 : Rd w L a0 (fl eI p0)) (hR1 : Rd w L a1 (fl eI p1)) (hO : Own w L) :
    Calls Try.prog 3 #[.slice ae elder.length ce, .slice al l.length cl, .agg #[.slice a0 p0.length c0, .slice a1 p1.length c1]] w fun en w' => en = .returned (.bool true) ∧ ∃ L', Own w' L' ∧ Ext w L w' L' := by
  refine enter (n := 160) _ Try.func3 rfl Try.ntmps3 (by simp) ?_
  refine c_seq ?_
  refine c_reg ?_
  refine s_box (v := .agg _) rfl hO ?_
  intro b5 w1 hz5 hl5 hO1 e1
  have h5 := boxRd hO1
  obtain ⟨hO2, e2⟩ := hO1.drop1
  refine s_assign (v := .bool _) rfl ?_
  refine s_nil ?_
  refine c_next ?_
  refine c_seq ?_
  refine c_seq ?_
  refine c_reg ?_
  refine s_call cf7 rfl (law23_awake _ _ hO2) ?_
  rintro er18 w3 ⟨rfl, hO3, e3⟩
  refine ⟨_, rfl, ?_⟩
  refine s_not rfl ?_
  refine s_nil ?_
  refine c_next ?_
  refine c_condF rfl ?_
  refine c_skip ?_
  refine c_next ?_
  refine c_seq ?_
  refine c_seq ?_
  refine c_reg ?_
  refine s_move (v := .slice _ _ _) rfl ?_
  refine s_len Try.underlying22 rfl ?_
  refine c_gtr rfl rfl (fun h22 => ?_) (fun h22 => ?_)
  · skip
    refine s_move (v := .bool _) rfl ?_
    refine g_skip 23 (by rfl) (by rfl) (by rfl) ?_
    refine g_skip 23 (by rfl) (by rfl) (by rfl) ?_
    refine g_skip 23 (by rfl) (by rfl) (by rfl) ?_
    refine s_pickT (v := .bool _) rfl rfl ?_
    refine s_move (v := .bool _) rfl ?_
    refine g_skip 28 (by rfl) (by rfl) (by rfl) ?_
    refine g_skip 28 (by rfl) (by rfl) (by rfl) ?_
    refine g_skip 28 (by rfl) (by rfl) (by rfl) ?_
    refine g_skip 28 (by rfl) (by rfl) (by rfl) ?_
    refine s_pickT (v := .bool _) rfl rfl ?_
    refine s_move (v := .bool _) rfl ?_
    refine g_skip 34 (by rfl) (by rfl) (by rfl) ?_
    refine g_skip 34 (by rfl) (by rfl) (by rfl) ?_
    refine g_skip 34 (by rfl) (by rfl) (by rfl) ?_
    refine g_skip 34 (by rfl) (by rfl) (by rfl) ?_
    refine s_pickT (v := .bool _) rfl rfl ?_
    refine s_move (v := .bool _) rfl ?_
    refine g_skip 40 (by rfl) (by rfl) (by rfl) ?_
    refine g_skip 40 (by rfl) (by rfl) (by rfl) ?_
    refine g_skip 40 (by rfl) (by rfl) (by rfl) ?_
    refine g_skip 40 (by rfl) (by rfl) (by rfl) ?_
    refine s_pickT (v := .bool _) rfl rfl ?_
    refine s_nil ?_
    refine c_next ?_
    refine c_condT rfl ?_
    refine c_seq ?_
    refine c_reg ?_
    refine s_assign (v := .bool _) rfl ?_
    refine s_nil ?_
    refine c_next ?_
    refine c_ret ?_
    refine r_then ?_
    refine e_1 (v := .bool _) Try.results3 rfl ?_
    exact ⟨rfl, _, hO3, (e1.trans (e2.trans e3))⟩
  refine s_move (v := .bool _) rfl ?_
  refine g_do 23 (by rfl) (by rfl) ?_
  refine s_move (v := .slice _ _ _) rfl ?_
  refine g_do 23 (by rfl) (by rfl) ?_
  refine s_len Try.underlying22 rfl ?_
  refine g_do 23 (by rfl) (by rfl) ?_
  refine c_gtr rfl rfl (fun h26 => ?_) (fun h26 => ?_)
  · skip
    refine s_pickF (v := .bool _) rfl rfl ?_
    refine s_move (v := .bool _) rfl ?_
    refine g_skip 28 (by rfl) (by rfl) (by rfl) ?_
    refine g_skip 28 (by rfl) (by rfl) (by rfl) ?_
    refine g_skip 28 (by rfl) (by rfl) (by rfl) ?_
    refine g_skip 28 (by rfl) (by rfl) (by rfl) ?_
    refine s_pickT (v := .bool _) rfl rfl ?_
    refine s_move (v := .bool _) rfl ?_
    refine g_skip 34 (by rfl) (by rfl) (by rfl) ?_
    refine g_skip 34 (by rfl) (by rfl) (by rfl) ?_
    refine g_skip 34 (by rfl) (by rfl) (by rfl) ?_
    refine g_skip 34 (by rfl) (by rfl) (by rfl) ?_
    refine s_pickT (v := .bool _) rfl rfl ?_
    refine s_move (v := .bool _) rfl ?_
    refine g_skip 40 (by rfl) (by rfl) (by rfl) ?_
    refine g_skip 40 (by rfl) (by rfl) (by rfl) ?_
    refine g_skip 40 (by rfl) (by rfl) (by rfl) ?_
    refine g_skip 40 (by rfl) (by rfl) (by rfl) ?_
    refine s_pickT (v := .bool _) rfl rfl ?_
    refine s_nil ?_
    refine c_next ?_
    refine c_condT rfl ?_
    refine c_seq ?_
    refine c_reg ?_
    refine s_assign (v := .bool _) rfl ?_
    refine s_nil ?_
    refine c_next ?_
    refine c_ret ?_
    refine r_then ?_
    refine e_1 (v := .bool _) Try.results3 rfl ?_
    exact ⟨rfl, _, hO3, (e1.trans (e2.trans e3))⟩
  refine s_pickF (v := .bool _) rfl rfl ?_
  refine s_move (v := .bool _) rfl ?_
  refine g_do 28 (by rfl) (by rfl) ?_
  refine s_idxArr Try.underlying24 I23 rfl rfl (by decide) (by decide) ?_
  refine g_do 28 (by rfl) (by rfl) ?_
  refine s_load1 Try.underlying23 rfl rfl (cellP (Rd.at1 (h5.ext e3)) 0 rfl) ?_
  refine g_do 28 (by rfl) (by rfl) ?_
  refine s_len Try.underlying23 rfl ?_
  refine g_do 28 (by rfl) (by rfl) ?_
  refine c_lss rfl rfl (fun h32 => ?_) (fun h32 => ?_)
  · skip
    refine s_pickF (v := .bool _) rfl rfl ?_
    refine s_move (v := .bool _) rfl ?_
    refine g_skip 34 (by rfl) (by rfl) (by rfl) ?_
    refine g_skip 34 (by rfl) (by rfl) (by rfl) ?_
    refine g_skip 34 (by rfl) (by rfl) (by rfl) ?_
    refine g_skip 34 (by rfl) (by rfl) (by rfl) ?_
    refine s_pickT (v := .bool _) rfl rfl ?_
    refine s_move (v := .bool _) rfl ?_
    refine g_skip 40 (by rfl) (by rfl) (by rfl) ?_
    refine g_skip 40 (by rfl) (by rfl) (by rfl) ?_
    refine g_skip 40 (by rfl) (by rfl) (by rfl) ?_
    refine g_skip 40 (by rfl) (by rfl) (by rfl) ?_
    refine s_pickT (v := .bool _) rfl rfl ?_
    refine s_nil ?_
    refine c_next ?_
    refine c_condT rfl ?_
    refine c_seq ?_
    refine c_reg ?_
    refine s_assign (v := .bool _) rfl ?_
    refine s_nil ?_
    refine c_next ?_
    refine c_ret ?_
    refine r_then ?_
    refine e_1 (v := .bool _) Try.results3 rfl ?_
    exact ⟨rfl, _, hO3, (e1.trans (e2.trans e3))⟩
  obtain ⟨q0, hq0⟩ : ∃ q, p0[0]? = some q := ⟨p0[0]'(by omega), by simp⟩
  have hq0m := hp0 q0 (List.mem_of_getElem? hq0)
  refine s_pickF (v := .bool _) rfl rfl ?_
  refine s_move (v := .bool _) rfl ?_
  refine g_do 34 (by rfl) (by rfl) ?_
  refine s_idxArr Try.underlying24 I23 rfl rfl (by decide) (by decide) ?_
  refine g_do 34 (by rfl) (by rfl) ?_
  refine s_load1 Try.underlying23 rfl rfl (cellP (Rd.at1 (h5.ext e3)) 0 rfl) ?_
  refine g_do 34 (by rfl) (by rfl) ?_
  refine s_len Try.underlying23 rfl ?_
  refine g_do 34 (by rfl) (by rfl) ?_
  refine c_gtr rfl rfl (fun h38 => ?_) (fun h38 => ?_)
  · skip
    refine s_pickF (v := .bool _) rfl rfl ?_
    refine s_move (v := .bool _) rfl ?_
    refine g_skip 40 (by rfl) (by rfl) (by rfl) ?_
    refine g_skip 40 (by rfl) (by rfl) (by rfl) ?_
    refine g_skip 40 (by rfl) (by rfl) (by rfl) ?_
    refine g_skip 40 (by rfl) (by rfl) (by rfl) ?_
    refine s_pickT (v := .bool _) rfl rfl ?_
    refine s_nil ?_
    refine c_next ?_
    refine c_condT rfl ?_
    refine c_seq ?_
    refine c_reg ?_
    refine s_assign (v := .bool _) rfl ?_
    refine s_nil ?_
    refine c_next ?_
    refine c_ret ?_
    refine r_then ?_
    refine e_1 (v := .bool _) Try.results3 rfl ?_
    exact ⟨rfl, _, hO3, (e1.trans (e2.trans e3))⟩
  refine s_pickF (v := .bool _) rfl rfl ?_
  refine s_move (v := .bool _) rfl ?_
  refine g_do 40 (by rfl) (by rfl) ?_
  refine s_idxArr Try.underlying24 I23 rfl rfl (by decide) (by decide) ?_
  refine g_do 40 (by rfl) (by rfl) ?_
  refine s_load1 Try.underlying23 rfl rfl (cellP (Rd.at1 (h5.ext e3)) 1 rfl) ?_
  refine g_do 40 (by rfl) (by rfl) ?_
  refine s_len Try.underlying23 rfl ?_
  refine g_do 40 (by rfl) (by rfl) ?_
  refine c_gtr rfl rfl (fun h44 => ?_) (fun h44 => ?_)
  · skip
    refine s_pickF (v := .bool _) rfl rfl ?_
    refine s_nil ?_
    refine c_next ?_
    refine c_condT rfl ?_
    refine c_seq ?_
    refine c_reg ?_
    refine s_assign (v := .bool _) rfl ?_
    refine s_nil ?_
    refine c_next ?_
    refine c_ret ?_
    refine r_then ?_
    refine e_1 (v := .bool _) Try.results3 rfl ?_
    exact ⟨rfl, _, hO3, (e1.trans (e2.trans e3))⟩
  refine s_pickF (v := .bool _) rfl rfl ?_
  refine s_nil ?_
  refine c_next ?_
  refine c_condF rfl ?_
  refine c_skip ?_
  refine c_next ?_
  refine c_seq ?_
  refine c_reg ?_
  refine s_call cf8 rfl (disk_New 5 (by decide) none 0 [] (by decide) _ _ (Rd.nil _ _ _) hO3) ?_
  rintro er47 w4 ⟨p, gs, L1, rfl, hD, hO4, e4⟩
  refine ⟨_, rfl, ?_⟩
  refine s_move (v := .tuple _) rfl ?_
  refine s_extract (v := .pointer _) rfl rfl ?_
  refine s_extract (v := .int _ _) rfl rfl ?_
  refine s_assign (v := .pointer _) rfl ?_
  refine s_assign (v := .int _ _) rfl ?_
  refine s_nil ?_
  refine c_next ?_
  refine c_seq ?_
  refine c_seq ?_
  refine c_reg ?_
  refine s_move (v := .int _ _) rfl ?_
  refine c_neq rfl rfl (fun h51 => ?_) (fun h51 => ?_)
  · exfalso; omega
  refine s_move (v := .bool _) rfl ?_
  refine g_do 52 (by rfl) (by rfl) ?_
  refine s_move (v := .pointer _) rfl ?_
  refine g_do 52 (by rfl) (by rfl) ?_
  refine s_ptr_eql Try.underlying26 rfl rfl ?_
  refine s_pickF (v := .bool _) rfl rfl ?_
  refine s_nil ?_
  refine c_next ?_
  refine c_condF rfl ?_
  refine c_skip ?_
  refine c_next ?_
  refine c_seq ?_
  refine c_reg ?_
  refine s_move (v := .pointer _) rfl ?_
  refine s_call cf9 rfl (journal_New p _ gs _ 0 5 _ _ hD (by decide) (by decide) hO4) ?_
  rintro er58 w5 ⟨j, rfl, hJ, hO5, e5⟩
  have hU : UpI l 0 _ := UpI.start l (-1)
  refine ⟨_, rfl, ?_⟩
  refine s_move (v := .tuple _) rfl ?_
  refine s_extract (v := .pointer _) rfl rfl ?_
  refine s_extract (v := .int _ _) rfl rfl ?_
  refine s_assign (v := .pointer _) rfl ?_
  refine s_assign (v := .int _ _) rfl ?_
  refine s_nil ?_
  refine c_next ?_
  refine c_seq ?_
  refine c_seq ?_
  refine c_reg ?_
  refine s_move (v := .int _ _) rfl ?_
  refine c_neq rfl rfl (fun h62 => ?_) (fun h62 => ?_)
  · exfalso; omega
  refine s_move (v := .bool _) rfl ?_
  refine g_do 63 (by rfl) (by rfl) ?_
  refine s_move (v := .pointer _) rfl ?_
  refine g_do 63 (by rfl) (by rfl) ?_
  refine s_ptr_eql Try.underlying30 rfl rfl ?_
  refine s_pickF (v := .bool _) rfl rfl ?_
  refine s_nil ?_
  refine c_next ?_
  refine c_condF rfl ?_
  refine c_skip ?_
  refine c_next ?_
  refine c_seq ?_
  refine c_seq ?_
  refine c_reg ?_
  refine s_assign (v := .int _ _) rfl ?_
  refine s_nil ?_
  refine c_next ?_
  refine c_block ?_
  have hRe := (hRe.ext (e1.trans (e2.trans (e3.trans (e4.trans e5)))))
  have hAe := (hAe.ext (e1.trans (e2.trans (e3.trans (e4.trans e5)))))
  have hRl := (hRl.ext (e1.trans (e2.trans (e3.trans (e4.trans e5)))))
  have hAl := (hAl.ext (e1.trans (e2.trans (e3.trans (e4.trans e5)))))
  have hR0 := (hR0.ext (e1.trans (e2.trans (e3.trans (e4.trans e5)))))
  have hR1 := (hR1.ext (e1.trans (e2.trans (e3.trans (e4.trans e5)))))
  have h5 := (h5.ext (e3.trans (e4.trans e5)))
  refine c_loopL hO5 (fun Lc f0 m g wl => ∃ (k : Nat) (dk : DS) (Lk : Hp), (m = elder.length - k) ∧ (g 11 = .int .i64 (k : Int)) ∧ (g 0 = f0 0) ∧ (g 1 = f0 1) ∧ (g 2 = f0 2) ∧ (g 5 = f0 5) ∧ (g 7 = f0 7) ∧ (g 8 = f0 8) ∧ (g 9 = f0 9) ∧ (g 10 = f0 10) ∧ (g 12 = f0 12) ∧ (g 13 = f0 13) ∧ (g 14 = f0 14) ∧ (g 15 = f0 15) ∧ (g 16 = f0 16) ∧ (g 17 = f0 17) ∧ (k ≤ elder.length) ∧ (DiskAt wl Lk p dk gs L) ∧ (UpI l 0 dk) ∧ (dk.left = -1) ∧ (Own wl (Lk)) ∧ (Ext w5 Lc wl (Lk))) (elder.length - 0) ?_ ?_
  · refine ⟨0, _, _, rfl, (by first | rfl | (simp; done)), rfl, rfl, rfl, rfl, rfl, rfl, rfl, rfl, rfl, rfl, rfl, rfl, rfl, rfl, by omega, (hD.ext e5), hU, rfl, hO5, (Ext.refl _ _)⟩
  intro m6 g6 w6 hI6
  obtain ⟨k, dk, Lk, hm6, hs6_11, hs6_0, hs6_1, hs6_2, hs6_5, hs6_7, hs6_8, hs6_9, hs6_10, hs6_12, hs6_13, hs6_14, hs6_15, hs6_16, hs6_17, hk, hDk, hU, hleft, hO6, e6⟩ := hI6
  obtain ⟨q6, rfl⟩ := fr15 hs6_11 hs6_0 hs6_1 hs6_2 hs6_5 hs6_7 hs6_8 hs6_9 hs6_10 hs6_12 hs6_13 hs6_14 hs6_15 hs6_16 hs6_17
  clear hs6_11 hs6_0 hs6_1 hs6_2 hs6_5 hs6_7 hs6_8 hs6_9 hs6_10 hs6_12 hs6_13 hs6_14 hs6_15 hs6_16 hs6_17
  refine c_seq ?_
  refine c_seq ?_
  refine c_reg ?_
  refine s_move (v := .int _ _) rfl ?_
  refine s_move (v := .slice _ _ _) rfl ?_
  refine s_len Try.underlying22 rfl ?_
  refine c_lss rfl rfl (fun h70 => ?_) (fun h70 => ?_)
  · skip
    obtain ⟨x, hx⟩ : ∃ x, elder[k]? = some x := ⟨elder[k]'(by omega), by simp⟩
    obtain ⟨ak, ck, hvk, hRk, hck⟩ := RdAll.get (hAe.ext e6) hx
    refine s_nil ?_
    refine c_next ?_
    refine c_condT rfl ?_
    refine c_skip ?_
    refine c_next ?_
    refine c_seq ?_
    refine c_block ?_
    refine c_seq ?_
    refine c_seq ?_
    refine c_reg ?_
    refine s_move (v := .slice _ _ _) rfl ?_
    refine s_move (v := .int _ _) rfl ?_
    refine s_idxE Try.underlying22 I33 rfl rfl (by omega) (by omega) (Rd.cs (hRe.ext e6)) eS_len (by decide) hvk ?_
    intro p75 hp75
    refine s_load1 Try.underlying33 rfl rfl (cellP hp75 0 rfl) ?_
    refine s_len Try.underlying33 rfl ?_
    refine c_gtr rfl rfl (fun h78 => ?_) (fun h78 => ?_)
    · skip
      refine s_nil ?_
      refine c_next ?_
      refine c_condT rfl ?_
      refine c_seq ?_
      refine c_reg ?_
      refine s_assign (v := .bool _) rfl ?_
      refine s_nil ?_
      refine c_next ?_
      refine c_ret ?_
      refine r_then ?_
      refine r_block ?_
      refine r_then ?_
      refine r_then ?_
      refine r_block ?_
      refine r_then ?_
      refine e_1 (v := .bool _) Try.results3 rfl ?_
      exact ⟨rfl, _, hO6, (e1.trans (e2.trans (e3.trans (e4.trans (e5.trans e6)))))⟩
    refine s_nil ?_
    refine c_next ?_
    refine c_condF rfl ?_
    refine c_skip ?_
    refine c_next ?_
    refine c_seq ?_
    refine c_reg ?_
    refine s_move (v := .pointer _) rfl ?_
    refine s_move (v := .int _ _) rfl ?_
    refine s_move (v := .slice _ _ _) rfl ?_
    refine s_move (v := .int _ _) rfl ?_
    refine s_idxE Try.underlying22 I33 rfl rfl (by omega) (by omega) (Rd.cs (hRe.ext e6)) eS_len (by decide) hvk ?_
    intro p83 hp83
    refine s_load1 Try.underlying33 rfl rfl (cellP hp83 0 rfl) ?_
    refine s_call cf10 rfl (journal_Append p _ gs _ j 0 5 _ _ hDk (hJ.ext e6) (by decide) (by decide) hO6 1 (k : Int) _ _ x hRk (by omega) hU.wt) ?_
    rintro er85 w7 ⟨L2, rfl, hD2, hO7, e7⟩
    have hst := UpI.elder hU hleft (k := k) (x := x) (by omega) (by omega)
    refine ⟨_, rfl, ?_⟩
    refine c_neq rfl rfl (fun h86 => ?_) (fun h86 => ?_)
    · exact absurd (congrArg Int.ofNat hst.1) h86
    refine s_nil ?_
    refine c_next ?_
    refine c_condF rfl ?_
    refine c_skip ?_
    refine x_norm ?_
    refine c_next ?_
    refine c_reg ?_
    refine s_move (v := .int _ _) rfl ?_
    refine s_add rfl rfl (by omega) (by omega) ?_
    refine s_assign (v := .int _ _) rfl ?_
    refine s_nil ?_
    refine l_end (m' := elder.length - (k + 1)) (by omega) ?_
    refine ⟨k + 1, _, _, rfl, (by first | rfl | (simp; done) | (congr 1; omega)), rfl, rfl, rfl, rfl, rfl, rfl, rfl, rfl, rfl, rfl, rfl, rfl, rfl, rfl, by omega, hD2, hst.2.1, hst.2.2, hO7, (e6.trans e7)⟩
  refine s_nil ?_
  refine c_next ?_
  refine c_condF rfl ?_
  refine c_exit ?_
  refine x_then ?_
  refine x_then ?_
  refine x_same ?_
  refine c_next ?_
  refine c_seq ?_
  refine c_reg ?_
  refine s_move (v := .pointer _) rfl ?_
  refine s_idxArr Try.underlying24 I23 rfl rfl (by decide) (by decide) ?_
  refine s_load1 Try.underlying23 rfl rfl (cellP (Rd.at1 (h5.ext e6)) 0 rfl) ?_
  refine s_idxE Try.underlying23 I3 rfl rfl (by omega) (by omega) (Rd.cs (hR0.ext e6)) eI_len (by decide) hq0 ?_
  intro p90 hp90
  refine s_load1 Try.underlying3 rfl rfl (cellP hp90 0 rfl) ?_
  refine s_call cf11 rfl (disk_Cut p _ gs _ _ _ hDk hO6 _ hq0m) ?_
  rintro er92 w8 ⟨L3, rfl, hD3, hO8, e8⟩
  refine ⟨_, rfl, ?_⟩
  refine s_nil ?_
  refine c_next ?_
  refine c_seq ?_
  refine c_reg ?_
  refine s_assign (v := .int _ _) rfl ?_
  refine s_assign (v := .bool _) rfl ?_
  refine s_nil ?_
  refine c_next ?_
  refine c_seq ?_
  refine c_seq ?_
  refine c_reg ?_
  refine s_assign (v := .int _ _) rfl ?_
  refine s_nil ?_
  refine c_next ?_
  refine c_block ?_
  have hRe := (hRe.ext (e6.trans e8))
  have hAe := (hAe.ext (e6.trans e8))
  have hRl := (hRl.ext (e6.trans e8))
  have hAl := (hAl.ext (e6.trans e8))
  have hR0 := (hR0.ext (e6.trans e8))
  have hR1 := (hR1.ext (e6.trans e8))
  have h5 := (h5.ext (e6.trans e8))
  have hJ := (hJ.ext (e6.trans e8))
  refine c_loopL hO8 (fun Lc f0 m g wl => ∃ (k : Nat) (nn : Nat) (dn : Bool) (dm : DS) (Lm : Hp), (m = l.length - k) ∧ (g 12 = .int .i64 (nn : Int)) ∧ (g 13 = .bool dn) ∧ (g 14 = .int .i64 (k : Int)) ∧ (g 0 = f0 0) ∧ (g 1 = f0 1) ∧ (g 2 = f0 2) ∧ (g 5 = f0 5) ∧ (g 7 = f0 7) ∧ (g 8 = f0 8) ∧ (g 9 = f0 9) ∧ (g 10 = f0 10) ∧ (g 11 = f0 11) ∧ (g 16 = f0 16) ∧ (g 17 = f0 17) ∧ (k ≤ l.length) ∧ (DiskAt wl Lm p dm gs L) ∧ ((dn = false ∧ nn = k ∧ UpI l k dm) ∨ (dn = true ∧ DownI l nn dm)) ∧ (∀ i x, i < k → l[i]? = some x → x.length ≤ 234) ∧ (Own wl (Lm)) ∧ (Ext w8 Lc wl (Lm))) (l.length - 0) ?_ ?_
  · refine ⟨0, 0, false, _, _, rfl, (by first | rfl | (simp; done)), (by first | rfl | (simp; done)), (by first | rfl | (simp; done)), rfl, rfl, rfl, rfl, rfl, rfl, rfl, rfl, rfl, rfl, rfl, by omega, hD3, .inl ⟨rfl, rfl, hU.cut _⟩, fun i x h => by omega, hO8, (Ext.refl _ _)⟩
  intro m9 g9 w9 hI9
  obtain ⟨k, nn, dn, dm, Lm, hm9, hs9_12, hs9_13, hs9_14, hs9_0, hs9_1, hs9_2, hs9_5, hs9_7, hs9_8, hs9_9, hs9_10, hs9_11, hs9_16, hs9_17, hk2, hDm, hI, hsm, hO9, e9⟩ := hI9
  obtain ⟨q9, rfl⟩ := fr14 hs9_12 hs9_13 hs9_14 hs9_0 hs9_1 hs9_2 hs9_5 hs9_7 hs9_8 hs9_9 hs9_10 hs9_11 hs9_16 hs9_17
  clear hs9_12 hs9_13 hs9_14 hs9_0 hs9_1 hs9_2 hs9_5 hs9_7 hs9_8 hs9_9 hs9_10 hs9_11 hs9_16 hs9_17
  refine c_seq ?_
  refine c_seq ?_
  refine c_reg ?_
  refine s_move (v := .int _ _) rfl ?_
  refine s_move (v := .slice _ _ _) rfl ?_
  refine s_len Try.underlying22 rfl ?_
  refine c_lss rfl rfl (fun h96 => ?_) (fun h96 => ?_)
  · skip
    obtain ⟨x, hx⟩ : ∃ x, l[k]? = some x := ⟨l[k]'(by omega), by simp⟩
    obtain ⟨ak, ck, hvk, hRk, hck⟩ := RdAll.get (hAl.ext e9) hx
    refine s_nil ?_
    refine c_next ?_
    refine c_condT rfl ?_
    refine c_skip ?_
    refine c_next ?_
    refine c_seq ?_
    refine c_block ?_
    refine c_seq ?_
    refine c_seq ?_
    refine c_reg ?_
    cases dn with
    | true =>
      have hDn : DownI l nn dm := by
        rcases hI with ⟨h_, _⟩ | ⟨_, h_⟩
        · cases h_
        · exact h_
      have hnl := hDn.1
      refine s_move (v := .slice _ _ _) rfl ?_
      refine s_move (v := .int _ _) rfl ?_
      refine s_idxE Try.underlying22 I33 rfl rfl (by omega) (by omega) (Rd.cs (hRl.ext e9)) eS_len (by decide) hvk ?_
      intro p101 hp101
      refine s_load1 Try.underlying33 rfl rfl (cellP hp101 0 rfl) ?_
      refine s_len Try.underlying33 rfl ?_
      refine c_gtr rfl rfl (fun h104 => ?_) (fun h104 => ?_)
      · skip
        refine s_nil ?_
        refine c_next ?_
        refine c_condT rfl ?_
        refine c_seq ?_
        refine c_reg ?_
        refine s_assign (v := .bool _) rfl ?_
        refine s_nil ?_
        refine c_next ?_
        refine c_ret ?_
        refine r_then ?_
        refine r_block ?_
        refine r_then ?_
        refine r_then ?_
        refine r_block ?_
        refine r_then ?_
        refine e_1 (v := .bool _) Try.results3 rfl ?_
        exact ⟨rfl, _, hO9, (e1.trans (e2.trans (e3.trans (e4.trans (e5.trans (e6.trans (e8.trans e9)))))))⟩
      refine s_nil ?_
      refine c_next ?_
      refine c_condF rfl ?_
      refine c_skip ?_
      refine c_next ?_
      refine c_seq ?_
      refine c_reg ?_
      refine s_move (v := .pointer _) rfl ?_
      refine s_move (v := .int _ _) rfl ?_
      refine s_move (v := .slice _ _ _) rfl ?_
      refine s_move (v := .int _ _) rfl ?_
      refine s_idxE Try.underlying22 I33 rfl rfl (by omega) (by omega) (Rd.cs (hRl.ext e9)) eS_len (by decide) hvk ?_
      intro p109 hp109
      refine s_load1 Try.underlying33 rfl rfl (cellP hp109 0 rfl) ?_
      refine s_call cf10 rfl (journal_Append p _ gs _ j 0 5 _ _ hDm (hJ.ext e9) (by decide) (by decide) hO9 2 (k : Int) _ _ x hRk (by omega) (by first | exact hDn.wt | exact hUp.wt)) ?_
      rintro er111 w10 ⟨L4, rfl, hD4, hO10, e10⟩
      rcases DownI.step hDn (k := k) (x := x) (by omega) (by omega) with ⟨hr, hst⟩
      · skip
        refine ⟨_, rfl, ?_⟩
        refine s_assign (v := .int _ _) rfl ?_
        refine s_nil ?_
        refine c_next ?_
        refine c_seq ?_
        refine c_seq ?_
        refine c_reg ?_
        refine s_move (v := .int _ _) rfl ?_
        refine c_neq rfl rfl (fun h113 => ?_) (fun h113 => ?_)
        refine s_move (v := .bool _) rfl ?_
        refine g_do 114 (by rfl) (by rfl) ?_
        refine s_move (v := .int _ _) rfl ?_
        refine g_do 114 (by rfl) (by rfl) ?_
        refine c_neq rfl rfl (fun h116 => ?_) (fun h116 => ?_)
        · exfalso; omega
        refine s_pickT (v := .bool _) rfl rfl ?_
        refine s_nil ?_
        refine c_next ?_
        refine c_condF rfl ?_
        refine c_skip ?_
        refine c_next ?_
        refine c_seq ?_
        refine c_reg ?_
        refine s_move (v := .bool _) rfl ?_
        refine s_move (v := .bool _) rfl ?_
        refine g_skip 119 (by rfl) (by rfl) (by rfl) ?_
        refine g_skip 119 (by rfl) (by rfl) (by rfl) ?_
        refine s_pickT (v := .bool _) rfl rfl ?_
        refine s_assign (v := .bool _) rfl ?_
        refine s_nil ?_
        refine c_next ?_
        refine c_seq ?_
        refine c_reg ?_
        refine s_move (v := .bool _) rfl ?_
        refine s_not rfl ?_
        refine s_nil ?_
        refine c_next ?_
        refine c_condF rfl ?_
        refine c_skip ?_
        refine x_norm ?_
        refine c_next ?_
        refine c_reg ?_
        refine s_move (v := .int _ _) rfl ?_
        refine s_add rfl rfl (by omega) (by omega) ?_
        refine s_assign (v := .int _ _) rfl ?_
        refine s_nil ?_
        have hsm' : ∀ i y, i < k + 1 → l[i]? = some y → y.length ≤ 234 := fun i y hi hy => by
          rcases Nat.lt_or_ge i k with h | h
          · exact hsm i y h hy
          · obtain rfl : i = k := by omega
            rw [hx] at hy
            injection hy with hy
            subst hy
            omega
        refine l_end (m' := l.length - (k + 1)) (by omega) ?_
        refine ⟨k + 1, nn, true, _, _, rfl, (by first | rfl | (simp; done) | (congr 1; omega)), (by first | rfl | (simp; done) | (congr 1; omega)), (by first | rfl | (simp; done) | (congr 1; omega)), rfl, rfl, rfl, rfl, rfl, rfl, rfl, rfl, rfl, rfl, rfl, by omega, hD4, .inr ⟨rfl, hst⟩, hsm', hO10, (e9.trans e10)⟩
        · exfalso; omega
    | false =>
      obtain ⟨hnk, hUp⟩ : nn = k ∧ UpI l k dm := by
        rcases hI with ⟨_, h1_, h2_⟩ | ⟨h_, _⟩
        · exact ⟨h1_, h2_⟩
        · cases h_
      refine s_move (v := .slice _ _ _) rfl ?_
      refine s_move (v := .int _ _) rfl ?_
      refine s_idxE Try.underlying22 I33 rfl rfl (by omega) (by omega) (Rd.cs (hRl.ext e9)) eS_len (by decide) hvk ?_
      intro p101 hp101
      refine s_load1 Try.underlying33 rfl rfl (cellP hp101 0 rfl) ?_
      refine s_len Try.underlying33 rfl ?_
      refine c_gtr rfl rfl (fun h104 => ?_) (fun h104 => ?_)
      · skip
        refine s_nil ?_
        refine c_next ?_
        refine c_condT rfl ?_
        refine c_seq ?_
        refine c_reg ?_
        refine s_assign (v := .bool _) rfl ?_
        refine s_nil ?_
        refine c_next ?_
        refine c_ret ?_
        refine r_then ?_
        refine r_block ?_
        refine r_then ?_
        refine r_then ?_
        refine r_block ?_
        refine r_then ?_
        refine e_1 (v := .bool _) Try.results3 rfl ?_
        exact ⟨rfl, _, hO9, (e1.trans (e2.trans (e3.trans (e4.trans (e5.trans (e6.trans (e8.trans e9)))))))⟩
      refine s_nil ?_
      refine c_next ?_
      refine c_condF rfl ?_
      refine c_skip ?_
      refine c_next ?_
      refine c_seq ?_
      refine c_reg ?_
      refine s_move (v := .pointer _) rfl ?_
      refine s_move (v := .int _ _) rfl ?_
      refine s_move (v := .slice _ _ _) rfl ?_
      refine s_move (v := .int _ _) rfl ?_
      refine s_idxE Try.underlying22 I33 rfl rfl (by omega) (by omega) (Rd.cs (hRl.ext e9)) eS_len (by decide) hvk ?_
      intro p109 hp109
      refine s_load1 Try.underlying33 rfl rfl (cellP hp109 0 rfl) ?_
      refine s_call cf10 rfl (journal_Append p _ gs _ j 0 5 _ _ hDm (hJ.ext e9) (by decide) (by decide) hO9 2 (k : Int) _ _ x hRk (by omega) (by first | exact hDn.wt | exact hUp.wt)) ?_
      rintro er111 w11 ⟨L4, rfl, hD4, hO11, e11⟩
      rcases UpI.step hUp (k := k) (x := x) (by omega) hx (by omega) with ⟨hr, hst⟩ | ⟨hr, hst⟩
      · skip
        refine ⟨_, rfl, ?_⟩
        refine s_assign (v := .int _ _) rfl ?_
        refine s_nil ?_
        refine c_next ?_
        refine c_seq ?_
        refine c_seq ?_
        refine c_reg ?_
        refine s_move (v := .int _ _) rfl ?_
        refine c_neq rfl rfl (fun h113 => ?_) (fun h113 => ?_)
        · exfalso; omega
        refine s_move (v := .bool _) rfl ?_
        refine g_skip 114 (by rfl) (by rfl) (by rfl) ?_
        refine g_skip 114 (by rfl) (by rfl) (by rfl) ?_
        refine s_pickF (v := .bool _) rfl rfl ?_
        refine s_nil ?_
        refine c_next ?_
        refine c_condF rfl ?_
        refine c_skip ?_
        refine c_next ?_
        refine c_seq ?_
        refine c_reg ?_
        refine s_move (v := .bool _) rfl ?_
        refine s_move (v := .bool _) rfl ?_
        refine g_do 119 (by rfl) (by rfl) ?_
        refine s_move (v := .int _ _) rfl ?_
        refine g_do 119 (by rfl) (by rfl) ?_
        refine c_neq rfl rfl (fun h121 => ?_) (fun h121 => ?_)
        · exfalso; omega
        refine s_pickF (v := .bool _) rfl rfl ?_
        refine s_assign (v := .bool _) rfl ?_
        refine s_nil ?_
        refine c_next ?_
        refine c_seq ?_
        refine c_reg ?_
        refine s_move (v := .bool _) rfl ?_
        refine s_not rfl ?_
        refine s_nil ?_
        refine c_next ?_
        refine c_condT rfl ?_
        refine c_reg ?_
        refine s_move (v := .int _ _) rfl ?_
        refine s_add rfl rfl (by omega) (by omega) ?_
        refine s_assign (v := .int _ _) rfl ?_
        refine s_nil ?_
        refine x_norm ?_
        refine c_next ?_
        refine c_reg ?_
        refine s_move (v := .int _ _) rfl ?_
        refine s_add rfl rfl (by omega) (by omega) ?_
        refine s_assign (v := .int _ _) rfl ?_
        refine s_nil ?_
        have hsm' : ∀ i y, i < k + 1 → l[i]? = some y → y.length ≤ 234 := fun i y hi hy => by
          rcases Nat.lt_or_ge i k with h | h
          · exact hsm i y h hy
          · obtain rfl : i = k := by omega
            rw [hx] at hy
            injection hy with hy
            subst hy
            omega
        refine l_end (m' := l.length - (k + 1)) (by omega) ?_
        refine ⟨k + 1, k + 1, false, _, _, rfl, (show Value.int .i64 ((nn : Int) + 1) = Value.int .i64 ((k + 1 : Nat) : Int) from congrArg (Value.int .i64) (by omega)), (by first | rfl | (simp; done) | (congr 1; omega)), (by first | rfl | (simp; done) | (congr 1; omega)), rfl, rfl, rfl, rfl, rfl, rfl, rfl, rfl, rfl, rfl, rfl, by omega, hD4, .inl ⟨rfl, rfl, hst⟩, hsm', hO11, (e9.trans e11)⟩
      · skip
        refine ⟨_, rfl, ?_⟩
        refine s_assign (v := .int _ _) rfl ?_
        refine s_nil ?_
        refine c_next ?_
        refine c_seq ?_
        refine c_seq ?_
        refine c_reg ?_
        refine s_move (v := .int _ _) rfl ?_
        refine c_neq rfl rfl (fun h113 => ?_) (fun h113 => ?_)
        refine s_move (v := .bool _) rfl ?_
        refine g_do 114 (by rfl) (by rfl) ?_
        refine s_move (v := .int _ _) rfl ?_
        refine g_do 114 (by rfl) (by rfl) ?_
        refine c_neq rfl rfl (fun h116 => ?_) (fun h116 => ?_)
        · exfalso; omega
        refine s_pickT (v := .bool _) rfl rfl ?_
        refine s_nil ?_
        refine c_next ?_
        refine c_condF rfl ?_
        refine c_skip ?_
        refine c_next ?_
        refine c_seq ?_
        refine c_reg ?_
        refine s_move (v := .bool _) rfl ?_
        refine s_move (v := .bool _) rfl ?_
        refine g_do 119 (by rfl) (by rfl) ?_
        refine s_move (v := .int _ _) rfl ?_
        refine g_do 119 (by rfl) (by rfl) ?_
        refine c_neq rfl rfl (fun h121 => ?_) (fun h121 => ?_)
        refine s_pickF (v := .bool _) rfl rfl ?_
        refine s_assign (v := .bool _) rfl ?_
        refine s_nil ?_
        refine c_next ?_
        refine c_seq ?_
        refine c_reg ?_
        refine s_move (v := .bool _) rfl ?_
        refine s_not rfl ?_
        refine s_nil ?_
        refine c_next ?_
        refine c_condF rfl ?_
        refine c_skip ?_
        refine x_norm ?_
        refine c_next ?_
        refine c_reg ?_
        refine s_move (v := .int _ _) rfl ?_
        refine s_add rfl rfl (by omega) (by omega) ?_
        refine s_assign (v := .int _ _) rfl ?_
        refine s_nil ?_
        have hsm' : ∀ i y, i < k + 1 → l[i]? = some y → y.length ≤ 234 := fun i y hi hy => by
          rcases Nat.lt_or_ge i k with h | h
          · exact hsm i y h hy
          · obtain rfl : i = k := by omega
            rw [hx] at hy
            injection hy with hy
            subst hy
            omega
        refine l_end (m' := l.length - (k + 1)) (by omega) ?_
        refine ⟨k + 1, k, true, _, _, rfl, (show Value.int .i64 (nn : Int) = Value.int .i64 (k : Int) from congrArg (Value.int .i64) (by omega)), (by first | rfl | (simp; done) | (congr 1; omega)), (by first | rfl | (simp; done) | (congr 1; omega)), rfl, rfl, rfl, rfl, rfl, rfl, rfl, rfl, rfl, rfl, rfl, by omega, hD4, .inr ⟨rfl, hst⟩, hsm', hO11, (e9.trans e11)⟩
        · exfalso; omega
        · exfalso; omega
  refine s_nil ?_
  refine c_next ?_
  refine c_condF rfl ?_
  refine c_exit ?_
  refine x_then ?_
  refine x_then ?_
  refine x_same ?_
  refine c_next ?_
  refine c_seq ?_
  refine c_reg ?_
  cases dn with
  | true =>
    have hDn : DownI l nn dm := by
      rcases hI with ⟨h_, _⟩ | ⟨_, h_⟩
      · cases h_
      · exact h_
    have hnl := hDn.1
    obtain rfl : k = l.length := by omega
    have hall : ∀ x, x ∈ l → x.length ≤ 234 := fun x hx => by
      obtain ⟨i, hi, rfl⟩ := List.getElem_of_mem hx
      exact hsm i _ hi (by simp)
    refine s_move (v := .pointer _) rfl ?_
    refine s_idxArr Try.underlying24 I23 rfl rfl (by decide) (by decide) ?_
    refine s_load1 Try.underlying23 rfl rfl (cellP (Rd.at1 (h5.ext e9)) 1 rfl) ?_
    refine s_call cf12 rfl (disk_Crash p _ gs _ _ _ hDm hO9 _ _ p1 (hR1.ext e9) (by omega)) ?_
    rintro er130 w12 ⟨L5, rfl, hD5, hO12, e12⟩
    refine ⟨_, rfl, ?_⟩
    refine s_nil ?_
    refine c_next ?_
    refine c_seq ?_
    refine c_reg ?_
    refine s_move (v := .pointer _) rfl ?_
    refine s_call cf13 rfl (journal_Scan p _ gs _ j 0 5 _ _ hD5 (hJ.ext (e9.trans e12)) (by decide) (by decide) hO12 2) ?_
    rintro er133 w13 ⟨ax, cx, mx, vx, rfl, hmx, hRx, hAx, hO13, e13⟩
    rcases DownI.scan hDn (by omega) hall p1 with hsc | hsc
    · skip
      rw [hsc] at hmx hAx ⊢
      have hmx2 : mx ≤ 5 := by
        rw [← hmx]
        show (l.take nn).length ≤ 5
        first | omega | (rw [List.length_take]; omega)
      refine ⟨_, rfl, ?_⟩
      refine s_move (v := .tuple _) rfl ?_
      refine s_extract (v := .slice _ _ _) rfl rfl ?_
      refine s_extract (v := .int _ _) rfl rfl ?_
      refine s_assign (v := .slice _ _ _) rfl ?_
      refine s_assign (v := .int _ _) rfl ?_
      refine s_nil ?_
      refine c_next ?_
      refine c_seq ?_
      refine c_seq ?_
      refine c_reg ?_
      refine s_move (v := .int _ _) rfl ?_
      refine c_neq rfl rfl (fun h137 => ?_) (fun h137 => ?_)
      · exact absurd rfl h137
      refine s_nil ?_
      refine c_next ?_
      refine c_condF rfl ?_
      refine c_skip ?_
      refine c_next ?_
      refine c_seq ?_
      refine c_reg ?_
      refine s_move (v := .slice _ _ _) rfl ?_
      refine s_move (v := .slice _ _ _) rfl ?_
      refine s_move (v := .int _ _) rfl ?_
      refine s_cut Try.underlying22 I33 rfl (sb_h (by omega) (by omega)) ?_
      intro a141 ha141
      have hR141 := (show Rd _ _ a141 (fl eS (vsl.take nn)) from by have h_ := Rd.cutE (l := 0) (h := nn) (hRl.ext (e9.trans (e12.trans e13))) eS_len (by omega) (by rw [hAl.1]; omega) (by omega) ha141; simpa using h_)
      refine s_call cf14 rfl (ref23_Same _ _ vx _ mx hmx _ _ (vsl.take nn) (l.take nn) _ (by rw [List.length_take]; omega) (by omega) _ _ hRx hAx hR141 (RdAll.take (hAl.ext (e9.trans (e12.trans e13))) nn) hO13) ?_
      rintro er142 w14 ⟨b1, rfl, hb1, hO14, e14⟩
      cases b1 with
      | true =>
        refine ⟨_, rfl, ?_⟩
        refine s_move (v := .bool _) rfl ?_
        refine g_skip 143 (by rfl) (by rfl) (by rfl) ?_
        refine g_skip 143 (by rfl) (by rfl) (by rfl) ?_
        refine g_skipU 145 (by rfl) rfl ?_
        refine g_skipU 145 (by rfl) rfl ?_
        refine g_skipU 145 (by rfl) rfl ?_
        refine g_skipU 145 (by rfl) rfl ?_
        refine g_skip 143 (by rfl) (by rfl) (by rfl) ?_
        refine g_skip 143 (by rfl) (by rfl) (by rfl) ?_
        refine g_skipU 151 (by rfl) rfl ?_
        refine g_skipU 151 (by rfl) rfl ?_
        refine g_skipU 151 (by rfl) rfl ?_
        refine g_skipU 151 (by rfl) rfl ?_
        refine g_skipU 151 (by rfl) rfl ?_
        refine g_skipU 151 (by rfl) rfl ?_
        refine g_skip 143 (by rfl) (by rfl) (by rfl) ?_
        refine s_pickT (v := .bool _) rfl rfl ?_
        refine s_assign (v := .bool _) rfl ?_
        refine s_nil ?_
        refine c_next ?_
        refine c_ret ?_
        refine e_1 (v := .bool _) Try.results3 rfl ?_
        exact ⟨rfl, _, hO14, (e1.trans (e2.trans (e3.trans (e4.trans (e5.trans (e6.trans (e8.trans (e9.trans (e12.trans (e13.trans e14))))))))))⟩
      | false =>
        exact absurd (hb1.2 rfl) (by decide)
    · skip
      rw [hsc] at hmx hAx ⊢
      have hmx2 : mx ≤ 5 := by
        rw [← hmx]
        show (l.take (nn + 1)).length ≤ 5
        first | omega | (rw [List.length_take]; omega)
      refine ⟨_, rfl, ?_⟩
      refine s_move (v := .tuple _) rfl ?_
      refine s_extract (v := .slice _ _ _) rfl rfl ?_
      refine s_extract (v := .int _ _) rfl rfl ?_
      refine s_assign (v := .slice _ _ _) rfl ?_
      refine s_assign (v := .int _ _) rfl ?_
      refine s_nil ?_
      refine c_next ?_
      refine c_seq ?_
      refine c_seq ?_
      refine c_reg ?_
      refine s_move (v := .int _ _) rfl ?_
      refine c_neq rfl rfl (fun h137 => ?_) (fun h137 => ?_)
      · exact absurd rfl h137
      refine s_nil ?_
      refine c_next ?_
      refine c_condF rfl ?_
      refine c_skip ?_
      refine c_next ?_
      refine c_seq ?_
      refine c_reg ?_
      refine s_move (v := .slice _ _ _) rfl ?_
      refine s_move (v := .slice _ _ _) rfl ?_
      refine s_move (v := .int _ _) rfl ?_
      refine s_cut Try.underlying22 I33 rfl (sb_h (by omega) (by omega)) ?_
      intro a141 ha141
      have hR141 := (show Rd _ _ a141 (fl eS (vsl.take nn)) from by have h_ := Rd.cutE (l := 0) (h := nn) (hRl.ext (e9.trans (e12.trans e13))) eS_len (by omega) (by rw [hAl.1]; omega) (by omega) ha141; simpa using h_)
      refine s_call cf14 rfl (ref23_Same _ _ vx _ mx hmx _ _ (vsl.take nn) (l.take nn) _ (by rw [List.length_take]; omega) (by omega) _ _ hRx hAx hR141 (RdAll.take (hAl.ext (e9.trans (e12.trans e13))) nn) hO13) ?_
      rintro er142 w15 ⟨b1, rfl, hb1, hO15, e15⟩
      cases b1 with
      | true =>
        refine ⟨_, rfl, ?_⟩
        refine s_move (v := .bool _) rfl ?_
        refine g_skip 143 (by rfl) (by rfl) (by rfl) ?_
        refine g_skip 143 (by rfl) (by rfl) (by rfl) ?_
        refine g_skipU 145 (by rfl) rfl ?_
        refine g_skipU 145 (by rfl) rfl ?_
        refine g_skipU 145 (by rfl) rfl ?_
        refine g_skipU 145 (by rfl) rfl ?_
        refine g_skip 143 (by rfl) (by rfl) (by rfl) ?_
        refine g_skip 143 (by rfl) (by rfl) (by rfl) ?_
        refine g_skipU 151 (by rfl) rfl ?_
        refine g_skipU 151 (by rfl) rfl ?_
        refine g_skipU 151 (by rfl) rfl ?_
        refine g_skipU 151 (by rfl) rfl ?_
        refine g_skipU 151 (by rfl) rfl ?_
        refine g_skipU 151 (by rfl) rfl ?_
        refine g_skip 143 (by rfl) (by rfl) (by rfl) ?_
        refine s_pickT (v := .bool _) rfl rfl ?_
        refine s_assign (v := .bool _) rfl ?_
        refine s_nil ?_
        refine c_next ?_
        refine c_ret ?_
        refine e_1 (v := .bool _) Try.results3 rfl ?_
        exact ⟨rfl, _, hO15, (e1.trans (e2.trans (e3.trans (e4.trans (e5.trans (e6.trans (e8.trans (e9.trans (e12.trans (e13.trans e15))))))))))⟩
      | false =>
        have hb1f : ¬ (_ = _) := fun h => by simpa using hb1.2 h
        refine ⟨_, rfl, ?_⟩
        refine s_move (v := .bool _) rfl ?_
        refine g_do 143 (by rfl) (by rfl) ?_
        refine s_move (v := .bool _) rfl ?_
        refine g_do 143 (by rfl) (by rfl) ?_
        refine s_move (v := .bool _) rfl ?_
        refine g_do 145 (by rfl) (by rfl) ?_
        refine s_move (v := .int _ _) rfl ?_
        refine g_do 145 (by rfl) (by rfl) ?_
        refine s_move (v := .slice _ _ _) rfl ?_
        refine g_do 145 (by rfl) (by rfl) ?_
        refine s_len Try.underlying22 rfl ?_
        refine g_do 145 (by rfl) (by rfl) ?_
        refine c_lss rfl rfl (fun h149 => ?_) (fun h149 => ?_)
        refine g_do 143 (by rfl) (by rfl) ?_
        refine s_pickT (v := .bool _) rfl rfl ?_
        refine g_do 143 (by rfl) (by rfl) ?_
        refine s_move (v := .bool _) rfl ?_
        refine g_do 151 (by rfl) (by rfl) ?_
        refine s_move (v := .slice _ _ _) rfl ?_
        refine g_do 151 (by rfl) (by rfl) ?_
        refine s_move (v := .slice _ _ _) rfl ?_
        refine g_do 151 (by rfl) (by rfl) ?_
        refine s_move (v := .int _ _) rfl ?_
        refine g_do 151 (by rfl) (by rfl) ?_
        refine s_add rfl rfl (by omega) (by omega) ?_
        refine g_do 151 (by rfl) (by rfl) ?_
        refine s_cut Try.underlying22 I33 rfl (sb_h (by omega) (by omega)) ?_
        intro a156 ha156
        have hR156 := (show Rd _ _ a156 (fl eS (vsl.take (nn + 1))) from by have h_ := Rd.cutE (l := 0) (h := nn + 1) (hRl.ext (e9.trans (e12.trans (e13.trans e15)))) eS_len (by omega) (by rw [hAl.1]; omega) (by omega) ha156; simpa using h_)
        refine g_do 151 (by rfl) (by rfl) ?_
        refine s_call cf14 rfl (ref23_Same _ _ vx _ mx hmx _ _ (vsl.take (nn + 1)) (l.take (nn + 1)) _ (by rw [List.length_take]; omega) (by omega) _ _ (hRx.ext e15) (hAx.ext e15) hR156 (RdAll.take (hAl.ext (e9.trans (e12.trans (e13.trans e15)))) (nn + 1)) hO15) ?_
        rintro er157 w16 ⟨b2, rfl, hb2, hO16, e16⟩
        cases b2 with
        | true =>
          refine ⟨_, rfl, ?_⟩
          refine g_do 143 (by rfl) (by rfl) ?_
          refine s_pickT (v := .bool _) rfl rfl ?_
          refine s_pickF (v := .bool _) rfl rfl ?_
          refine s_assign (v := .bool _) rfl ?_
          refine s_nil ?_
          refine c_next ?_
          refine c_ret ?_
          refine e_1 (v := .bool _) Try.results3 rfl ?_
          exact ⟨rfl, _, hO16, (e1.trans (e2.trans (e3.trans (e4.trans (e5.trans (e6.trans (e8.trans (e9.trans (e12.trans (e13.trans (e15.trans e16)))))))))))⟩
        | false =>
          exact absurd (hb2.2 rfl) (by decide)
        · exfalso; omega
  | false =>
    obtain ⟨hnk, hUp⟩ : nn = k ∧ UpI l k dm := by
      rcases hI with ⟨_, h1_, h2_⟩ | ⟨h_, _⟩
      · exact ⟨h1_, h2_⟩
      · cases h_
    obtain rfl : k = l.length := by omega
    have hall : ∀ x, x ∈ l → x.length ≤ 234 := fun x hx => by
      obtain ⟨i, hi, rfl⟩ := List.getElem_of_mem hx
      exact hsm i _ hi (by simp)
    refine s_move (v := .pointer _) rfl ?_
    refine s_idxArr Try.underlying24 I23 rfl rfl (by decide) (by decide) ?_
    refine s_load1 Try.underlying23 rfl rfl (cellP (Rd.at1 (h5.ext e9)) 1 rfl) ?_
    refine s_call cf12 rfl (disk_Crash p _ gs _ _ _ hDm hO9 _ _ p1 (hR1.ext e9) (by omega)) ?_
    rintro er130 w17 ⟨L5, rfl, hD5, hO17, e17⟩
    refine ⟨_, rfl, ?_⟩
    refine s_nil ?_
    refine c_next ?_
    refine c_seq ?_
    refine c_reg ?_
    refine s_move (v := .pointer _) rfl ?_
    refine s_call cf13 rfl (journal_Scan p _ gs _ j 0 5 _ _ hD5 (hJ.ext (e9.trans e17)) (by decide) (by decide) hO17 2) ?_
    rintro er133 w18 ⟨ax, cx, mx, vx, rfl, hmx, hRx, hAx, hO18, e18⟩
    rcases UpI.scan hUp (by omega) hall p1 with hsc
    · skip
      rw [hsc] at hmx hAx ⊢
      have hmx2 : mx ≤ 5 := by
        rw [← hmx]
        show (l).length ≤ 5
        first | omega | (rw [List.length_take]; omega)
      refine ⟨_, rfl, ?_⟩
      refine s_move (v := .tuple _) rfl ?_
      refine s_extract (v := .slice _ _ _) rfl rfl ?_
      refine s_extract (v := .int _ _) rfl rfl ?_
      refine s_assign (v := .slice _ _ _) rfl ?_
      refine s_assign (v := .int _ _) rfl ?_
      refine s_nil ?_
      refine c_next ?_
      refine c_seq ?_
      refine c_seq ?_
      refine c_reg ?_
      refine s_move (v := .int _ _) rfl ?_
      refine c_neq rfl rfl (fun h137 => ?_) (fun h137 => ?_)
      · exact absurd rfl h137
      refine s_nil ?_
      refine c_next ?_
      refine c_condF rfl ?_
      refine c_skip ?_
      refine c_next ?_
      refine c_seq ?_
      refine c_reg ?_
      refine s_move (v := .slice _ _ _) rfl ?_
      refine s_move (v := .slice _ _ _) rfl ?_
      refine s_move (v := .int _ _) rfl ?_
      refine s_cut Try.underlying22 I33 rfl (sb_h (by omega) (by omega)) ?_
      intro a141 ha141
      have hR141 := (show Rd _ _ a141 (fl eS (vsl.take nn)) from by have h_ := Rd.cutE (l := 0) (h := nn) (hRl.ext (e9.trans (e17.trans e18))) eS_len (by omega) (by rw [hAl.1]; omega) (by omega) ha141; simpa using h_)
      refine s_call cf14 rfl (ref23_Same _ _ vx _ mx hmx _ _ (vsl.take nn) (l.take nn) _ (by rw [List.length_take]; omega) (by omega) _ _ hRx hAx hR141 (RdAll.take (hAl.ext (e9.trans (e17.trans e18))) nn) hO18) ?_
      rintro er142 w19 ⟨b1, rfl, hb1, hO19, e19⟩
      cases b1 with
      | true =>
        refine ⟨_, rfl, ?_⟩
        refine s_move (v := .bool _) rfl ?_
        refine g_skip 143 (by rfl) (by rfl) (by rfl) ?_
        refine g_skip 143 (by rfl) (by rfl) (by rfl) ?_
        refine g_skipU 145 (by rfl) rfl ?_
        refine g_skipU 145 (by rfl) rfl ?_
        refine g_skipU 145 (by rfl) rfl ?_
        refine g_skipU 145 (by rfl) rfl ?_
        refine g_skip 143 (by rfl) (by rfl) (by rfl) ?_
        refine g_skip 143 (by rfl) (by rfl) (by rfl) ?_
        refine g_skipU 151 (by rfl) rfl ?_
        refine g_skipU 151 (by rfl) rfl ?_
        refine g_skipU 151 (by rfl) rfl ?_
        refine g_skipU 151 (by rfl) rfl ?_
        refine g_skipU 151 (by rfl) rfl ?_
        refine g_skipU 151 (by rfl) rfl ?_
        refine g_skip 143 (by rfl) (by rfl) (by rfl) ?_
        refine s_pickT (v := .bool _) rfl rfl ?_
        refine s_assign (v := .bool _) rfl ?_
        refine s_nil ?_
        refine c_next ?_
        refine c_ret ?_
        refine e_1 (v := .bool _) Try.results3 rfl ?_
        exact ⟨rfl, _, hO19, (e1.trans (e2.trans (e3.trans (e4.trans (e5.trans (e6.trans (e8.trans (e9.trans (e17.trans (e18.trans e19))))))))))⟩
      | false =>
        exact absurd (hb1.2 (by rw [List.take_of_length_le (by omega)])) (by decide)
end Go.Proofs.Ytpjojocckoobeaa
