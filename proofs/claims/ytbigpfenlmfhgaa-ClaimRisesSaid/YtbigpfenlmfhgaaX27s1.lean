/- A part of the proof that the row of the law holds of the program as translated: lemmas and contracts of its functions. -/
import Derived.Test.YtbigpfenlmfhgaaX27s0
import Derived.Test.YtbigpfenlmfhgaaProg
import Derived.Test.YtbigpfenlmfhgaaAvI
import Derived.Test.YtbigpfenlmfhgaaX27p
set_option linter.unusedVariables false
set_option linter.unusedSimpArgs false
set_option maxRecDepth 10000
namespace Go.Proofs.Ytbigpfenlmfhgaa
open Go.GV Go.AV Go.RowKit
attribute [local irreducible] wpList
theorem c_batonlaw27_Few (x0 : T_claim_State) (aP0 : Option Addr) (mP0 cP0 : Nat) (aP1 : Option Addr) (mP1 cP1 : Nat)  (r : Bool) (h : F_batonlaw27_Few x0 = some r) (w : World) (L : Hp) (hm0p : x0.Roster.length = mP0) (hc0p : mP0 ≤ cP0) (hR0p : Rd w L aP0 (fl e_roster_Device x0.Roster)) (hm1p : x0.Tickets.length = mP1) (hc1p : mP1 ≤ cP1) (hR1p : Rd w L aP1 (fl e_ticket_Ticket x0.Tickets)) (hO : Own w L) :
    Calls Try.prog 15 #[(.agg #[(.int .i64 x0.Epoch), (.int .i64 x0.Owner), (.int .i64 x0.Next), (.slice aP0 mP0 cP0), (.slice aP1 mP1 cP1)])] w fun en w' => en = .returned (.bool r) ∧ Own w' L ∧ Ext w L w' L := by
  unfold F_batonlaw27_Few at h
  refine enter (n := 13) [(.agg #[(.int .i64 x0.Epoch), (.int .i64 x0.Owner), (.int .i64 x0.Next), (.slice aP0 mP0 cP0), (.slice aP1 mP1 cP1)])] Try.func15 rfl rfl (Nat.le_of_ble_eq_true rfl) ?_
  refine c_seq ?_
  refine c_reg ?_
  refine s_box (v := (.agg #[(.int .i64 x0.Epoch), (.int .i64 x0.Owner), (.int .i64 x0.Next), (.slice aP0 mP0 cP0), (.slice aP1 mP1 cP1)])) rfl hO ?_
  intro b1 w2 hz1 hl1 hO2 e2
  have hO3 : Own w2 ((b1, .cells #[(.int .i64 x0.Epoch), (.int .i64 x0.Owner), (.int .i64 x0.Next), (.slice aP0 mP0 cP0), (.slice aP1 mP1 cP1)] 27 (0, 0)) :: L) := hO2
  refine sv (r_assign (v := .bool false) rfl) ?_
  refine s_nil ?_
  refine c_next ?_
  refine c_seq ?_
  refine c_reg ?_
  refine sv (r_fieldAddr Try.underlying27 rfl I24 (by decide) rfl) ?_
  refine s_load1 (v := .slice _ _ _) Try.underlying24 rfl rfl (cellB (hO3.get (i := 0) rfl) rfl rfl) ?_
  refine sv (r_lenL (xs := x0.Roster) Try.underlying24 rfl hm0p) ?_
  refine c_leq rfl rfl (fun h6 => ?_) (fun h6 => ?_)
  · replace h := iT h6 h
    refine sv (r_move (v := .bool true) rfl) ?_
    refine g_do 7 (by rfl) rfl ?_
    refine sv (r_fieldAddr Try.underlying27 rfl I25 (by decide) rfl) ?_
    refine g_do 7 (by rfl) rfl ?_
    refine s_load1 (v := .slice _ _ _) Try.underlying25 rfl rfl (cellB (hO3.get (i := 0) rfl) rfl rfl) ?_
    refine g_do 7 (by rfl) rfl ?_
    refine sv (r_lenL (xs := x0.Tickets) Try.underlying25 rfl hm1p) ?_
    refine g_do 7 (by rfl) rfl ?_
    refine c_leq rfl rfl (fun h11 => ?_) (fun h11 => ?_)
    · replace h := iT h11 h
      refine sv (r_pickT (v := .bool true) rfl rfl) ?_
      refine sv (r_assign (v := .bool true) rfl) ?_
      refine s_nil ?_
      refine c_next ?_
      refine c_ret ?_
      refine e_1 (v := .bool true) Try.results15 rfl ?_
      obtain ⟨hO5, e5⟩ := hO3.drop1
      rw [← Option.some.inj h]
      exact ⟨rfl, hO5, (e2.trans e5)⟩
    replace h := iF (Int.not_le.2 h11) h
    refine sv (r_pickT (v := .bool false) rfl rfl) ?_
    refine sv (r_assign (v := .bool false) rfl) ?_
    refine s_nil ?_
    refine c_next ?_
    refine c_ret ?_
    refine e_1 (v := .bool false) Try.results15 rfl ?_
    obtain ⟨hO6, e6⟩ := hO3.drop1
    rw [← Option.some.inj h]
    exact ⟨rfl, hO6, (e2.trans e6)⟩
  replace h := iF (Int.not_le.2 h6) h
  refine sv (r_move (v := .bool false) rfl) ?_
  refine g_skip 7 (by rfl) rfl (by rfl) ?_
  refine g_skip 7 (by rfl) rfl (by rfl) ?_
  refine g_skip 7 (by rfl) rfl (by rfl) ?_
  refine g_skip 7 (by rfl) rfl (by rfl) ?_
  refine sv (r_pickF (v := .bool false) rfl rfl) ?_
  refine sv (r_assign (v := .bool false) rfl) ?_
  refine s_nil ?_
  refine c_next ?_
  refine c_ret ?_
  refine e_1 (v := .bool false) Try.results15 rfl ?_
  obtain ⟨hO7, e7⟩ := hO3.drop1
  rw [← Option.some.inj h]
  exact ⟨rfl, hO7, (e2.trans e7)⟩
theorem c_roster_Right (x0 : (List T_roster_Device)) (aP0 : Option Addr) (mP0 cP0 : Nat)  (r : Bool) (h : F_roster_Right x0 = some r) (w : World) (L : Hp) (hm0p : x0.length = mP0) (hc0p : mP0 ≤ cP0) (hR0p : Rd w L aP0 (fl e_roster_Device x0)) (hO : Own w L) :
    Calls Try.prog 38 #[(.slice aP0 mP0 cP0)] w fun en w' => en = .returned (.bool r) ∧ Own w' L ∧ Ext w L w' L := by
  unfold F_roster_Right at h
  refine enter (n := 56) [(.slice aP0 mP0 cP0)] Try.func38 rfl rfl (Nat.le_of_ble_eq_true rfl) ?_
  refine c_seq ?_
  refine c_reg ?_
  refine sv (r_assign (v := .bool false) rfl) ?_
  refine s_nil ?_
  refine c_next ?_
  refine c_seq ?_
  refine c_seq ?_
  refine c_reg ?_
  refine sv (r_move (v := .slice _ _ _) rfl) ?_
  refine sv (r_lenL (xs := x0) Try.underlying24 rfl hm0p) ?_
  refine sv (r_move (v := .int _ _) rfl) ?_
  refine s_nil ?_
  refine c_next ?_
  refine c_block ?_
  obtain ⟨kl19, hkl19⟩ := loop_iff.1 h
  clear h
  refine c_loopL hO (fun Lc f0 m g wl => ∃ (xl1_t7 : Int), (iterK (roster_Right_l1 x0) m xl1_t7 = some r) ∧ g 0 = (.slice aP0 mP0 cP0) ∧ g 5 = (.slice aP0 mP0 cP0) ∧ g 6 = (.int .i64 ((x0.length : Int))) ∧ g 7 = (.int .i64 xl1_t7) ∧ Own wl L ∧ Ext w Lc wl L) kl19 ?_ ?_
  · skip
    exact ⟨0, hkl19, rfl, rfl, rfl, rfl, hO, (Ext.refl _ _)⟩
  clear hkl19
  intro mm19 gg19 w19 hI19
  obtain ⟨xl1_t7, hkl19, hsl1_0, hsl1_5, hsl1_6, hsl1_7, hO19, e19⟩ := hI19
  obtain ⟨kl19, yl19, rfl, h, hyl19⟩ := iterE hkl19
  clear hkl19
  obtain ⟨qq19, rfl⟩ := fr4 hsl1_0 hsl1_5 hsl1_6 hsl1_7
  clear hsl1_0 hsl1_5 hsl1_6 hsl1_7
  have hR0p := (hR0p.ext e19)
  obtain ⟨oc20, G20, hG20, h, hr20⟩ := bindG h
  refine c_cutL hO19 (fun Lc f0 g w' => ∃ (xc2_t8 : Bool), (G20 xc2_t8 = some yl19) ∧ g 0 = (.slice aP0 mP0 cP0) ∧ g 5 = (.slice aP0 mP0 cP0) ∧ g 6 = (.int .i64 ((x0.length : Int))) ∧ g 7 = (.int .i64 xl1_t7) ∧ g 8 = (.bool xc2_t8) ∧ Own w' L ∧ Ext w19 Lc w' L) ?_ ?_
  · skip
    refine c_reg ?_
    refine c_lss rfl rfl (fun h8 => ?_) (fun h8 => ?_)
    · replace h := iT h8 h
      refine s_nil ?_
      refine c_next ?_
      rw [← Option.some.inj h] at hr20
      exact ⟨_, rfl, true, hr20, rfl, rfl, rfl, rfl, rfl, hO19, (Ext.refl _ _)⟩
    replace h := iF (Int.not_lt.2 h8) h
    refine s_nil ?_
    refine c_next ?_
    rw [← Option.some.inj h] at hr20
    exact ⟨_, rfl, false, hr20, rfl, rfl, rfl, rfl, rfl, hO19, (Ext.refl _ _)⟩
  intro gg20 w20 hI20
  clear h hr20
  obtain ⟨xc2_t8, h, hsc2_0, hsc2_5, hsc2_6, hsc2_7, hsc2_8, hO20, e20⟩ := hI20
  replace h := hG_ hG20 h; clear hG20
  obtain ⟨qq20, rfl⟩ := fr5 hsc2_0 hsc2_5 hsc2_6 hsc2_7 hsc2_8
  clear hsc2_0 hsc2_5 hsc2_6 hsc2_7 hsc2_8
  refine c_seq ?_
  rcases Bool.eq_false_or_eq_true (xc2_t8) with hb22 | hb22
  · replace h := iT hb22 h
    refine c_condT (congrArg Value.bool hb22) ?_
    refine c_skip ?_
    refine c_next ?_
    refine c_seq ?_
    refine c_block ?_
    refine c_seq ?_
    refine c_reg ?_
    refine sv (r_move (v := .int _ _) rfl) ?_
    obtain ⟨y10, hy10, h⟩ := bindE h
    refine a_idx (e := e_roster_Device) (xs := x0) (i := xl1_t7) Try.underlying24 I56 rfl rfl (Rd.cs (hR0p.ext e20)) e_roster_Device_len (by decide) hm0p hy10 ?_
    intro p10 hp10
    refine s_loadN (cs := [(.int .i64 y10.Id), (.int .i64 y10.Times), (.bool y10.Gone), (.int .i64 y10.Last)]) Try.underlying56 rfl I56 rfl rfl hp10 ?_
    refine s_alloc I56 hO20 ?_
    intro b4 w25 hz4 hl4 hO25 e25
    have hO26 : Own w25 ((b4, .cells #[(.int .i64 0), (.int .i64 0), (.bool false), (.int .i64 0)] 56 (0, 0)) :: L) := hO25
    refine sv (r_assign (v := .int _ _) rfl) ?_
    refine s_storeN (vs := #[(.int .i64 y10.Id), (.int .i64 y10.Times), (.bool y10.Gone), (.int .i64 y10.Last)]) I56 rfl rfl rfl hO26 (i := 0) rfl (Nat.le_of_ble_eq_true rfl) (List.all_eq_true.1 rfl) ?_
    intro w28 hO28 e28
    have hO29 : Own w28 ((b4, .cells #[(.int .i64 y10.Id), (.int .i64 y10.Times), (.bool y10.Gone), (.int .i64 y10.Last)] 56 (0, 0)) :: L) := hO28
    refine s_nil ?_
    refine c_next ?_
    refine c_seq ?_
    have hR0p := (hR0p.ext (e20.trans (e25.trans e28)))
    refine d_startL hO29 hO29 43 (by kernel_rfl) (pk_then (pk_block (pk_then (pk_then (pk_block (pk_then pk_body)))))) ?_
    intro hP32 wd32 hK32 hO31 e31
    refine dT (i := 0) (listed' := #[I_,O_,O_,O_,O_,O_,O_,O_,O_,O_,O_,O_,O_,O_,O_,O_,O_,O_,O_,O_,O_,O_,O_,O_,O_,O_,O_,O_,O_,O_,O_,O_,O_,O_,O_,O_,O_,O_,O_,O_,O_,O_,O_]) rfl hP32 hK32 (fun wS hS => (r_fieldAddr Try.underlying56 rfl I3 (by decide) rfl)) ?_
    refine dT (i := 1) (listed' := #[I_,I_,O_,O_,O_,O_,O_,O_,O_,O_,O_,O_,O_,O_,O_,O_,O_,O_,O_,O_,O_,O_,O_,O_,O_,O_,O_,O_,O_,O_,O_,O_,O_,O_,O_,O_,O_,O_,O_,O_,O_,O_,O_]) rfl hP32 hK32 (fun wS hS => (r_load1 (v := .int _ _) Try.underlying3 rfl rfl (cellB (hS.own.get (i := 0) rfl) rfl rfl))) ?_
    refine dt_lss (i := 2) (listed' := #[I_,I_,I_,O_,O_,O_,O_,O_,O_,O_,O_,O_,O_,O_,O_,O_,O_,O_,O_,O_,O_,O_,O_,O_,O_,O_,O_,O_,O_,O_,O_,O_,O_,O_,O_,O_,O_,O_,O_,O_,O_,O_,O_]) (by rfl) (by kernel_rfl) (by rfl) hP32.u rfl hK32 rfl rfl (fun h14 => ?_) (fun h14 => ?_)
    · replace h := iT h14 h
      refine dT (i := 3) (listed' := #[I_,I_,I_,I_,O_,O_,O_,O_,O_,O_,O_,O_,O_,O_,O_,O_,O_,O_,O_,O_,O_,O_,O_,O_,O_,O_,O_,O_,O_,O_,O_,O_,O_,O_,O_,O_,O_,O_,O_,O_,O_,O_,O_]) rfl hP32 hK32 (fun wS hS => (r_move (v := .bool true) rfl)) ?_
      refine dS (i := 4) (listed' := #[I_,I_,I_,I_,I_,O_,O_,O_,O_,O_,O_,O_,O_,O_,O_,O_,O_,O_,O_,O_,O_,O_,O_,O_,O_,O_,O_,O_,O_,O_,O_,O_,O_,O_,O_,O_,O_,O_,O_,O_,O_,O_,O_]) rfl 15 hP32 rfl hK32 ?_
      refine dS (i := 5) (listed' := #[I_,I_,I_,I_,I_,I_,O_,O_,O_,O_,O_,O_,O_,O_,O_,O_,O_,O_,O_,O_,O_,O_,O_,O_,O_,O_,O_,O_,O_,O_,O_,O_,O_,O_,O_,O_,O_,O_,O_,O_,O_,O_,O_]) rfl 15 hP32 rfl hK32 ?_
      refine dS (i := 6) (listed' := #[I_,I_,I_,I_,I_,I_,I_,O_,O_,O_,O_,O_,O_,O_,O_,O_,O_,O_,O_,O_,O_,O_,O_,O_,O_,O_,O_,O_,O_,O_,O_,O_,O_,O_,O_,O_,O_,O_,O_,O_,O_,O_,O_]) rfl 15 hP32 rfl hK32 ?_
      refine dT (i := 7) (listed' := #[I_,I_,I_,I_,I_,I_,I_,I_,O_,O_,O_,O_,O_,O_,O_,O_,O_,O_,O_,O_,O_,O_,O_,O_,O_,O_,O_,O_,O_,O_,O_,O_,O_,O_,O_,O_,O_,O_,O_,O_,O_,O_,O_]) rfl hP32 hK32 (fun wS hS => (r_pickT (v := .bool true) rfl rfl)) ?_
      refine dT (i := 8) (listed' := #[I_,I_,I_,I_,I_,I_,I_,I_,I_,O_,O_,O_,O_,O_,O_,O_,O_,O_,O_,O_,O_,O_,O_,O_,O_,O_,O_,O_,O_,O_,O_,O_,O_,O_,O_,O_,O_,O_,O_,O_,O_,O_,O_]) rfl hP32 hK32 (fun wS hS => (r_move (v := .bool true) rfl)) ?_
      refine dS (i := 9) (listed' := #[I_,I_,I_,I_,I_,I_,I_,I_,I_,I_,O_,O_,O_,O_,O_,O_,O_,O_,O_,O_,O_,O_,O_,O_,O_,O_,O_,O_,O_,O_,O_,O_,O_,O_,O_,O_,O_,O_,O_,O_,O_,O_,O_]) rfl 20 hP32 rfl hK32 ?_
      refine dS (i := 10) (listed' := #[I_,I_,I_,I_,I_,I_,I_,I_,I_,I_,I_,O_,O_,O_,O_,O_,O_,O_,O_,O_,O_,O_,O_,O_,O_,O_,O_,O_,O_,O_,O_,O_,O_,O_,O_,O_,O_,O_,O_,O_,O_,O_,O_]) rfl 20 hP32 rfl hK32 ?_
      refine dS (i := 11) (listed' := #[I_,I_,I_,I_,I_,I_,I_,I_,I_,I_,I_,I_,O_,O_,O_,O_,O_,O_,O_,O_,O_,O_,O_,O_,O_,O_,O_,O_,O_,O_,O_,O_,O_,O_,O_,O_,O_,O_,O_,O_,O_,O_,O_]) rfl 20 hP32 rfl hK32 ?_
      refine dU (i := 12) (listed' := #[I_,I_,I_,I_,I_,I_,I_,I_,I_,I_,I_,I_,I_,O_,O_,O_,O_,O_,O_,O_,O_,O_,O_,O_,O_,O_,O_,O_,O_,O_,O_,O_,O_,O_,O_,O_,O_,O_,O_,O_,O_,O_,O_]) rfl 23 hP32 hK32 ?_
      refine dU (i := 13) (listed' := #[I_,I_,I_,I_,I_,I_,I_,I_,I_,I_,I_,I_,I_,I_,O_,O_,O_,O_,O_,O_,O_,O_,O_,O_,O_,O_,O_,O_,O_,O_,O_,O_,O_,O_,O_,O_,O_,O_,O_,O_,O_,O_,O_]) rfl 23 hP32 hK32 ?_
      refine dU (i := 14) (listed' := #[I_,I_,I_,I_,I_,I_,I_,I_,I_,I_,I_,I_,I_,I_,I_,O_,O_,O_,O_,O_,O_,O_,O_,O_,O_,O_,O_,O_,O_,O_,O_,O_,O_,O_,O_,O_,O_,O_,O_,O_,O_,O_,O_]) rfl 23 hP32 hK32 ?_
      refine dU (i := 15) (listed' := #[I_,I_,I_,I_,I_,I_,I_,I_,I_,I_,I_,I_,I_,I_,I_,I_,O_,O_,O_,O_,O_,O_,O_,O_,O_,O_,O_,O_,O_,O_,O_,O_,O_,O_,O_,O_,O_,O_,O_,O_,O_,O_,O_]) rfl 23 hP32 hK32 ?_
      refine dU (i := 16) (listed' := #[I_,I_,I_,I_,I_,I_,I_,I_,I_,I_,I_,I_,I_,I_,I_,I_,I_,O_,O_,O_,O_,O_,O_,O_,O_,O_,O_,O_,O_,O_,O_,O_,O_,O_,O_,O_,O_,O_,O_,O_,O_,O_,O_]) rfl 23 hP32 hK32 ?_
      refine dU (i := 17) (listed' := #[I_,I_,I_,I_,I_,I_,I_,I_,I_,I_,I_,I_,I_,I_,I_,I_,I_,I_,O_,O_,O_,O_,O_,O_,O_,O_,O_,O_,O_,O_,O_,O_,O_,O_,O_,O_,O_,O_,O_,O_,O_,O_,O_]) rfl 23 hP32 hK32 ?_
      refine dU (i := 18) (listed' := #[I_,I_,I_,I_,I_,I_,I_,I_,I_,I_,I_,I_,I_,I_,I_,I_,I_,I_,I_,O_,O_,O_,O_,O_,O_,O_,O_,O_,O_,O_,O_,O_,O_,O_,O_,O_,O_,O_,O_,O_,O_,O_,O_]) rfl 23 hP32 hK32 ?_
      refine dU (i := 19) (listed' := #[I_,I_,I_,I_,I_,I_,I_,I_,I_,I_,I_,I_,I_,I_,I_,I_,I_,I_,I_,I_,O_,O_,O_,O_,O_,O_,O_,O_,O_,O_,O_,O_,O_,O_,O_,O_,O_,O_,O_,O_,O_,O_,O_]) rfl 23 hP32 hK32 ?_
      refine dU (i := 20) (listed' := #[I_,I_,I_,I_,I_,I_,I_,I_,I_,I_,I_,I_,I_,I_,I_,I_,I_,I_,I_,I_,I_,O_,O_,O_,O_,O_,O_,O_,O_,O_,O_,O_,O_,O_,O_,O_,O_,O_,O_,O_,O_,O_,O_]) rfl 23 hP32 hK32 ?_
      refine dS (i := 21) (listed' := #[I_,I_,I_,I_,I_,I_,I_,I_,I_,I_,I_,I_,I_,I_,I_,I_,I_,I_,I_,I_,I_,I_,O_,O_,O_,O_,O_,O_,O_,O_,O_,O_,O_,O_,O_,O_,O_,O_,O_,O_,O_,O_,O_]) rfl 20 hP32 rfl hK32 ?_
      refine dT (i := 22) (listed' := #[I_,I_,I_,I_,I_,I_,I_,I_,I_,I_,I_,I_,I_,I_,I_,I_,I_,I_,I_,I_,I_,I_,I_,O_,O_,O_,O_,O_,O_,O_,O_,O_,O_,O_,O_,O_,O_,O_,O_,O_,O_,O_,O_]) rfl hP32 hK32 (fun wS hS => (r_pickT (v := .bool true) rfl rfl)) ?_
      refine dT (i := 23) (listed' := #[I_,I_,I_,I_,I_,I_,I_,I_,I_,I_,I_,I_,I_,I_,I_,I_,I_,I_,I_,I_,I_,I_,I_,I_,O_,O_,O_,O_,O_,O_,O_,O_,O_,O_,O_,O_,O_,O_,O_,O_,O_,O_,O_]) rfl hP32 hK32 (fun wS hS => (r_move (v := .bool true) rfl)) ?_
      refine dS (i := 24) (listed' := #[I_,I_,I_,I_,I_,I_,I_,I_,I_,I_,I_,I_,I_,I_,I_,I_,I_,I_,I_,I_,I_,I_,I_,I_,I_,O_,O_,O_,O_,O_,O_,O_,O_,O_,O_,O_,O_,O_,O_,O_,O_,O_,O_]) rfl 35 hP32 rfl hK32 ?_
      refine dS (i := 25) (listed' := #[I_,I_,I_,I_,I_,I_,I_,I_,I_,I_,I_,I_,I_,I_,I_,I_,I_,I_,I_,I_,I_,I_,I_,I_,I_,I_,O_,O_,O_,O_,O_,O_,O_,O_,O_,O_,O_,O_,O_,O_,O_,O_,O_]) rfl 35 hP32 rfl hK32 ?_
      refine dS (i := 26) (listed' := #[I_,I_,I_,I_,I_,I_,I_,I_,I_,I_,I_,I_,I_,I_,I_,I_,I_,I_,I_,I_,I_,I_,I_,I_,I_,I_,I_,O_,O_,O_,O_,O_,O_,O_,O_,O_,O_,O_,O_,O_,O_,O_,O_]) rfl 35 hP32 rfl hK32 ?_
      refine dT (i := 27) (listed' := #[I_,I_,I_,I_,I_,I_,I_,I_,I_,I_,I_,I_,I_,I_,I_,I_,I_,I_,I_,I_,I_,I_,I_,I_,I_,I_,I_,I_,O_,O_,O_,O_,O_,O_,O_,O_,O_,O_,O_,O_,O_,O_,O_]) rfl hP32 hK32 (fun wS hS => (r_pickT (v := .bool true) rfl rfl)) ?_
      refine dT (i := 28) (listed' := #[I_,I_,I_,I_,I_,I_,I_,I_,I_,I_,I_,I_,I_,I_,I_,I_,I_,I_,I_,I_,I_,I_,I_,I_,I_,I_,I_,I_,I_,O_,O_,O_,O_,O_,O_,O_,O_,O_,O_,O_,O_,O_,O_]) rfl hP32 hK32 (fun wS hS => (r_move (v := .bool true) rfl)) ?_
      refine dS (i := 29) (listed' := #[I_,I_,I_,I_,I_,I_,I_,I_,I_,I_,I_,I_,I_,I_,I_,I_,I_,I_,I_,I_,I_,I_,I_,I_,I_,I_,I_,I_,I_,I_,O_,O_,O_,O_,O_,O_,O_,O_,O_,O_,O_,O_,O_]) rfl 40 hP32 rfl hK32 ?_
      refine dS (i := 30) (listed' := #[I_,I_,I_,I_,I_,I_,I_,I_,I_,I_,I_,I_,I_,I_,I_,I_,I_,I_,I_,I_,I_,I_,I_,I_,I_,I_,I_,I_,I_,I_,I_,O_,O_,O_,O_,O_,O_,O_,O_,O_,O_,O_,O_]) rfl 40 hP32 rfl hK32 ?_
      refine dS (i := 31) (listed' := #[I_,I_,I_,I_,I_,I_,I_,I_,I_,I_,I_,I_,I_,I_,I_,I_,I_,I_,I_,I_,I_,I_,I_,I_,I_,I_,I_,I_,I_,I_,I_,I_,O_,O_,O_,O_,O_,O_,O_,O_,O_,O_,O_]) rfl 40 hP32 rfl hK32 ?_
      refine dT (i := 32) (listed' := #[I_,I_,I_,I_,I_,I_,I_,I_,I_,I_,I_,I_,I_,I_,I_,I_,I_,I_,I_,I_,I_,I_,I_,I_,I_,I_,I_,I_,I_,I_,I_,I_,I_,O_,O_,O_,O_,O_,O_,O_,O_,O_,O_]) rfl hP32 hK32 (fun wS hS => (r_pickT (v := .bool true) rfl rfl)) ?_
      refine dT (i := 33) (listed' := #[I_,I_,I_,I_,I_,I_,I_,I_,I_,I_,I_,I_,I_,I_,I_,I_,I_,I_,I_,I_,I_,I_,I_,I_,I_,I_,I_,I_,I_,I_,I_,I_,I_,I_,O_,O_,O_,O_,O_,O_,O_,O_,O_]) rfl hP32 hK32 (fun wS hS => (r_move (v := .bool true) rfl)) ?_
      refine dS (i := 34) (listed' := #[I_,I_,I_,I_,I_,I_,I_,I_,I_,I_,I_,I_,I_,I_,I_,I_,I_,I_,I_,I_,I_,I_,I_,I_,I_,I_,I_,I_,I_,I_,I_,I_,I_,I_,I_,O_,O_,O_,O_,O_,O_,O_,O_]) rfl 45 hP32 rfl hK32 ?_
      refine dS (i := 35) (listed' := #[I_,I_,I_,I_,I_,I_,I_,I_,I_,I_,I_,I_,I_,I_,I_,I_,I_,I_,I_,I_,I_,I_,I_,I_,I_,I_,I_,I_,I_,I_,I_,I_,I_,I_,I_,I_,O_,O_,O_,O_,O_,O_,O_]) rfl 45 hP32 rfl hK32 ?_
      refine dS (i := 36) (listed' := #[I_,I_,I_,I_,I_,I_,I_,I_,I_,I_,I_,I_,I_,I_,I_,I_,I_,I_,I_,I_,I_,I_,I_,I_,I_,I_,I_,I_,I_,I_,I_,I_,I_,I_,I_,I_,I_,O_,O_,O_,O_,O_,O_]) rfl 45 hP32 rfl hK32 ?_
      refine dT (i := 37) (listed' := #[I_,I_,I_,I_,I_,I_,I_,I_,I_,I_,I_,I_,I_,I_,I_,I_,I_,I_,I_,I_,I_,I_,I_,I_,I_,I_,I_,I_,I_,I_,I_,I_,I_,I_,I_,I_,I_,I_,O_,O_,O_,O_,O_]) rfl hP32 hK32 (fun wS hS => (r_pickT (v := .bool true) rfl rfl)) ?_
      refine dT (i := 38) (listed' := #[I_,I_,I_,I_,I_,I_,I_,I_,I_,I_,I_,I_,I_,I_,I_,I_,I_,I_,I_,I_,I_,I_,I_,I_,I_,I_,I_,I_,I_,I_,I_,I_,I_,I_,I_,I_,I_,I_,I_,O_,O_,O_,O_]) rfl hP32 hK32 (fun wS hS => (r_move (v := .bool true) rfl)) ?_
      refine dS (i := 39) (listed' := #[I_,I_,I_,I_,I_,I_,I_,I_,I_,I_,I_,I_,I_,I_,I_,I_,I_,I_,I_,I_,I_,I_,I_,I_,I_,I_,I_,I_,I_,I_,I_,I_,I_,I_,I_,I_,I_,I_,I_,I_,O_,O_,O_]) rfl 50 hP32 rfl hK32 ?_
      refine dS (i := 40) (listed' := #[I_,I_,I_,I_,I_,I_,I_,I_,I_,I_,I_,I_,I_,I_,I_,I_,I_,I_,I_,I_,I_,I_,I_,I_,I_,I_,I_,I_,I_,I_,I_,I_,I_,I_,I_,I_,I_,I_,I_,I_,I_,O_,O_]) rfl 50 hP32 rfl hK32 ?_
      refine dS (i := 41) (listed' := #[I_,I_,I_,I_,I_,I_,I_,I_,I_,I_,I_,I_,I_,I_,I_,I_,I_,I_,I_,I_,I_,I_,I_,I_,I_,I_,I_,I_,I_,I_,I_,I_,I_,I_,I_,I_,I_,I_,I_,I_,I_,I_,O_]) rfl 50 hP32 rfl hK32 ?_
      refine dT (i := 42) (listed' := #[I_,I_,I_,I_,I_,I_,I_,I_,I_,I_,I_,I_,I_,I_,I_,I_,I_,I_,I_,I_,I_,I_,I_,I_,I_,I_,I_,I_,I_,I_,I_,I_,I_,I_,I_,I_,I_,I_,I_,I_,I_,I_,I_]) rfl hP32 hK32 (fun wS hS => (r_pickT (v := .bool true) rfl rfl)) ?_
      refine d_done (by kernel_rfl) ?_
      refine c_next ?_
      refine c_condT rfl ?_
      refine c_seq ?_
      refine c_reg ?_
      refine sv (r_assign (v := .bool false) rfl) ?_
      refine s_nil ?_
      refine c_next ?_
      refine c_ret ?_
      refine r_block ?_
      refine r_then ?_
      refine r_then ?_
      refine r_block ?_
      refine r_then ?_
      replace h := crossE h hyl19
      refine e_1 (v := .bool false) Try.results38 rfl ?_
      obtain ⟨hO33, e33⟩ := hO31.drop1
      rw [← Option.some.inj h]
      exact ⟨rfl, hO33, (e19.trans (e20.trans (e25.trans (e28.trans (e31.trans e33)))))⟩
    replace h := iF (Int.not_lt.2 h14) h
    refine dT (i := 3) (listed' := #[I_,I_,I_,I_,O_,O_,O_,O_,O_,O_,O_,O_,O_,O_,O_,O_,O_,O_,O_,O_,O_,O_,O_,O_,O_,O_,O_,O_,O_,O_,O_,O_,O_,O_,O_,O_,O_,O_,O_,O_,O_,O_,O_]) rfl hP32 hK32 (fun wS hS => (r_move (v := .bool false) rfl)) ?_
    refine dG (i := 4) (listed' := #[I_,I_,I_,I_,I_,O_,O_,O_,O_,O_,O_,O_,O_,O_,O_,O_,O_,O_,O_,O_,O_,O_,O_,O_,O_,O_,O_,O_,O_,O_,O_,O_,O_,O_,O_,O_,O_,O_,O_,O_,O_,O_,O_]) rfl 15 hP32 rfl hK32 (fun wS hS => (r_fieldAddr Try.underlying56 rfl I3 (by decide) rfl)) ?_
    refine dG (i := 5) (listed' := #[I_,I_,I_,I_,I_,I_,O_,O_,O_,O_,O_,O_,O_,O_,O_,O_,O_,O_,O_,O_,O_,O_,O_,O_,O_,O_,O_,O_,O_,O_,O_,O_,O_,O_,O_,O_,O_,O_,O_,O_,O_,O_,O_]) rfl 15 hP32 rfl hK32 (fun wS hS => (r_load1 (v := .int _ _) Try.underlying3 rfl rfl (cellB (hS.own.get (i := 0) rfl) rfl rfl))) ?_
    refine dt_geqG (i := 6) (listed' := #[I_,I_,I_,I_,I_,I_,I_,O_,O_,O_,O_,O_,O_,O_,O_,O_,O_,O_,O_,O_,O_,O_,O_,O_,O_,O_,O_,O_,O_,O_,O_,O_,O_,O_,O_,O_,O_,O_,O_,O_,O_,O_,O_]) (by rfl) (by kernel_rfl) (by rfl) hP32.u 15 (by rfl) rfl hK32 rfl rfl (fun h18 => ?_) (fun h18 => ?_)
    · replace h := iT h18 h
      refine dT (i := 7) (listed' := #[I_,I_,I_,I_,I_,I_,I_,I_,O_,O_,O_,O_,O_,O_,O_,O_,O_,O_,O_,O_,O_,O_,O_,O_,O_,O_,O_,O_,O_,O_,O_,O_,O_,O_,O_,O_,O_,O_,O_,O_,O_,O_,O_]) rfl hP32 hK32 (fun wS hS => (r_pickF (v := .bool true) rfl rfl)) ?_
      refine dT (i := 8) (listed' := #[I_,I_,I_,I_,I_,I_,I_,I_,I_,O_,O_,O_,O_,O_,O_,O_,O_,O_,O_,O_,O_,O_,O_,O_,O_,O_,O_,O_,O_,O_,O_,O_,O_,O_,O_,O_,O_,O_,O_,O_,O_,O_,O_]) rfl hP32 hK32 (fun wS hS => (r_move (v := .bool true) rfl)) ?_
      refine dS (i := 9) (listed' := #[I_,I_,I_,I_,I_,I_,I_,I_,I_,I_,O_,O_,O_,O_,O_,O_,O_,O_,O_,O_,O_,O_,O_,O_,O_,O_,O_,O_,O_,O_,O_,O_,O_,O_,O_,O_,O_,O_,O_,O_,O_,O_,O_]) rfl 20 hP32 rfl hK32 ?_
      refine dS (i := 10) (listed' := #[I_,I_,I_,I_,I_,I_,I_,I_,I_,I_,I_,O_,O_,O_,O_,O_,O_,O_,O_,O_,O_,O_,O_,O_,O_,O_,O_,O_,O_,O_,O_,O_,O_,O_,O_,O_,O_,O_,O_,O_,O_,O_,O_]) rfl 20 hP32 rfl hK32 ?_
      refine dS (i := 11) (listed' := #[I_,I_,I_,I_,I_,I_,I_,I_,I_,I_,I_,I_,O_,O_,O_,O_,O_,O_,O_,O_,O_,O_,O_,O_,O_,O_,O_,O_,O_,O_,O_,O_,O_,O_,O_,O_,O_,O_,O_,O_,O_,O_,O_]) rfl 20 hP32 rfl hK32 ?_
      refine dU (i := 12) (listed' := #[I_,I_,I_,I_,I_,I_,I_,I_,I_,I_,I_,I_,I_,O_,O_,O_,O_,O_,O_,O_,O_,O_,O_,O_,O_,O_,O_,O_,O_,O_,O_,O_,O_,O_,O_,O_,O_,O_,O_,O_,O_,O_,O_]) rfl 23 hP32 hK32 ?_
      refine dU (i := 13) (listed' := #[I_,I_,I_,I_,I_,I_,I_,I_,I_,I_,I_,I_,I_,I_,O_,O_,O_,O_,O_,O_,O_,O_,O_,O_,O_,O_,O_,O_,O_,O_,O_,O_,O_,O_,O_,O_,O_,O_,O_,O_,O_,O_,O_]) rfl 23 hP32 hK32 ?_
      refine dU (i := 14) (listed' := #[I_,I_,I_,I_,I_,I_,I_,I_,I_,I_,I_,I_,I_,I_,I_,O_,O_,O_,O_,O_,O_,O_,O_,O_,O_,O_,O_,O_,O_,O_,O_,O_,O_,O_,O_,O_,O_,O_,O_,O_,O_,O_,O_]) rfl 23 hP32 hK32 ?_
      refine dU (i := 15) (listed' := #[I_,I_,I_,I_,I_,I_,I_,I_,I_,I_,I_,I_,I_,I_,I_,I_,O_,O_,O_,O_,O_,O_,O_,O_,O_,O_,O_,O_,O_,O_,O_,O_,O_,O_,O_,O_,O_,O_,O_,O_,O_,O_,O_]) rfl 23 hP32 hK32 ?_
      refine dU (i := 16) (listed' := #[I_,I_,I_,I_,I_,I_,I_,I_,I_,I_,I_,I_,I_,I_,I_,I_,I_,O_,O_,O_,O_,O_,O_,O_,O_,O_,O_,O_,O_,O_,O_,O_,O_,O_,O_,O_,O_,O_,O_,O_,O_,O_,O_]) rfl 23 hP32 hK32 ?_
      refine dU (i := 17) (listed' := #[I_,I_,I_,I_,I_,I_,I_,I_,I_,I_,I_,I_,I_,I_,I_,I_,I_,I_,O_,O_,O_,O_,O_,O_,O_,O_,O_,O_,O_,O_,O_,O_,O_,O_,O_,O_,O_,O_,O_,O_,O_,O_,O_]) rfl 23 hP32 hK32 ?_
      refine dU (i := 18) (listed' := #[I_,I_,I_,I_,I_,I_,I_,I_,I_,I_,I_,I_,I_,I_,I_,I_,I_,I_,I_,O_,O_,O_,O_,O_,O_,O_,O_,O_,O_,O_,O_,O_,O_,O_,O_,O_,O_,O_,O_,O_,O_,O_,O_]) rfl 23 hP32 hK32 ?_
      refine dU (i := 19) (listed' := #[I_,I_,I_,I_,I_,I_,I_,I_,I_,I_,I_,I_,I_,I_,I_,I_,I_,I_,I_,I_,O_,O_,O_,O_,O_,O_,O_,O_,O_,O_,O_,O_,O_,O_,O_,O_,O_,O_,O_,O_,O_,O_,O_]) rfl 23 hP32 hK32 ?_
      refine dU (i := 20) (listed' := #[I_,I_,I_,I_,I_,I_,I_,I_,I_,I_,I_,I_,I_,I_,I_,I_,I_,I_,I_,I_,I_,O_,O_,O_,O_,O_,O_,O_,O_,O_,O_,O_,O_,O_,O_,O_,O_,O_,O_,O_,O_,O_,O_]) rfl 23 hP32 hK32 ?_
      refine dS (i := 21) (listed' := #[I_,I_,I_,I_,I_,I_,I_,I_,I_,I_,I_,I_,I_,I_,I_,I_,I_,I_,I_,I_,I_,I_,O_,O_,O_,O_,O_,O_,O_,O_,O_,O_,O_,O_,O_,O_,O_,O_,O_,O_,O_,O_,O_]) rfl 20 hP32 rfl hK32 ?_
      refine dT (i := 22) (listed' := #[I_,I_,I_,I_,I_,I_,I_,I_,I_,I_,I_,I_,I_,I_,I_,I_,I_,I_,I_,I_,I_,I_,I_,O_,O_,O_,O_,O_,O_,O_,O_,O_,O_,O_,O_,O_,O_,O_,O_,O_,O_,O_,O_]) rfl hP32 hK32 (fun wS hS => (r_pickT (v := .bool true) rfl rfl)) ?_
      refine dT (i := 23) (listed' := #[I_,I_,I_,I_,I_,I_,I_,I_,I_,I_,I_,I_,I_,I_,I_,I_,I_,I_,I_,I_,I_,I_,I_,I_,O_,O_,O_,O_,O_,O_,O_,O_,O_,O_,O_,O_,O_,O_,O_,O_,O_,O_,O_]) rfl hP32 hK32 (fun wS hS => (r_move (v := .bool true) rfl)) ?_
      refine dS (i := 24) (listed' := #[I_,I_,I_,I_,I_,I_,I_,I_,I_,I_,I_,I_,I_,I_,I_,I_,I_,I_,I_,I_,I_,I_,I_,I_,I_,O_,O_,O_,O_,O_,O_,O_,O_,O_,O_,O_,O_,O_,O_,O_,O_,O_,O_]) rfl 35 hP32 rfl hK32 ?_
      refine dS (i := 25) (listed' := #[I_,I_,I_,I_,I_,I_,I_,I_,I_,I_,I_,I_,I_,I_,I_,I_,I_,I_,I_,I_,I_,I_,I_,I_,I_,I_,O_,O_,O_,O_,O_,O_,O_,O_,O_,O_,O_,O_,O_,O_,O_,O_,O_]) rfl 35 hP32 rfl hK32 ?_
      refine dS (i := 26) (listed' := #[I_,I_,I_,I_,I_,I_,I_,I_,I_,I_,I_,I_,I_,I_,I_,I_,I_,I_,I_,I_,I_,I_,I_,I_,I_,I_,I_,O_,O_,O_,O_,O_,O_,O_,O_,O_,O_,O_,O_,O_,O_,O_,O_]) rfl 35 hP32 rfl hK32 ?_
      refine dT (i := 27) (listed' := #[I_,I_,I_,I_,I_,I_,I_,I_,I_,I_,I_,I_,I_,I_,I_,I_,I_,I_,I_,I_,I_,I_,I_,I_,I_,I_,I_,I_,O_,O_,O_,O_,O_,O_,O_,O_,O_,O_,O_,O_,O_,O_,O_]) rfl hP32 hK32 (fun wS hS => (r_pickT (v := .bool true) rfl rfl)) ?_
      refine dT (i := 28) (listed' := #[I_,I_,I_,I_,I_,I_,I_,I_,I_,I_,I_,I_,I_,I_,I_,I_,I_,I_,I_,I_,I_,I_,I_,I_,I_,I_,I_,I_,I_,O_,O_,O_,O_,O_,O_,O_,O_,O_,O_,O_,O_,O_,O_]) rfl hP32 hK32 (fun wS hS => (r_move (v := .bool true) rfl)) ?_
      refine dS (i := 29) (listed' := #[I_,I_,I_,I_,I_,I_,I_,I_,I_,I_,I_,I_,I_,I_,I_,I_,I_,I_,I_,I_,I_,I_,I_,I_,I_,I_,I_,I_,I_,I_,O_,O_,O_,O_,O_,O_,O_,O_,O_,O_,O_,O_,O_]) rfl 40 hP32 rfl hK32 ?_
      refine dS (i := 30) (listed' := #[I_,I_,I_,I_,I_,I_,I_,I_,I_,I_,I_,I_,I_,I_,I_,I_,I_,I_,I_,I_,I_,I_,I_,I_,I_,I_,I_,I_,I_,I_,I_,O_,O_,O_,O_,O_,O_,O_,O_,O_,O_,O_,O_]) rfl 40 hP32 rfl hK32 ?_
      refine dS (i := 31) (listed' := #[I_,I_,I_,I_,I_,I_,I_,I_,I_,I_,I_,I_,I_,I_,I_,I_,I_,I_,I_,I_,I_,I_,I_,I_,I_,I_,I_,I_,I_,I_,I_,I_,O_,O_,O_,O_,O_,O_,O_,O_,O_,O_,O_]) rfl 40 hP32 rfl hK32 ?_
      refine dT (i := 32) (listed' := #[I_,I_,I_,I_,I_,I_,I_,I_,I_,I_,I_,I_,I_,I_,I_,I_,I_,I_,I_,I_,I_,I_,I_,I_,I_,I_,I_,I_,I_,I_,I_,I_,I_,O_,O_,O_,O_,O_,O_,O_,O_,O_,O_]) rfl hP32 hK32 (fun wS hS => (r_pickT (v := .bool true) rfl rfl)) ?_
      refine dT (i := 33) (listed' := #[I_,I_,I_,I_,I_,I_,I_,I_,I_,I_,I_,I_,I_,I_,I_,I_,I_,I_,I_,I_,I_,I_,I_,I_,I_,I_,I_,I_,I_,I_,I_,I_,I_,I_,O_,O_,O_,O_,O_,O_,O_,O_,O_]) rfl hP32 hK32 (fun wS hS => (r_move (v := .bool true) rfl)) ?_
      refine dS (i := 34) (listed' := #[I_,I_,I_,I_,I_,I_,I_,I_,I_,I_,I_,I_,I_,I_,I_,I_,I_,I_,I_,I_,I_,I_,I_,I_,I_,I_,I_,I_,I_,I_,I_,I_,I_,I_,I_,O_,O_,O_,O_,O_,O_,O_,O_]) rfl 45 hP32 rfl hK32 ?_
      refine dS (i := 35) (listed' := #[I_,I_,I_,I_,I_,I_,I_,I_,I_,I_,I_,I_,I_,I_,I_,I_,I_,I_,I_,I_,I_,I_,I_,I_,I_,I_,I_,I_,I_,I_,I_,I_,I_,I_,I_,I_,O_,O_,O_,O_,O_,O_,O_]) rfl 45 hP32 rfl hK32 ?_
      refine dS (i := 36) (listed' := #[I_,I_,I_,I_,I_,I_,I_,I_,I_,I_,I_,I_,I_,I_,I_,I_,I_,I_,I_,I_,I_,I_,I_,I_,I_,I_,I_,I_,I_,I_,I_,I_,I_,I_,I_,I_,I_,O_,O_,O_,O_,O_,O_]) rfl 45 hP32 rfl hK32 ?_
      refine dT (i := 37) (listed' := #[I_,I_,I_,I_,I_,I_,I_,I_,I_,I_,I_,I_,I_,I_,I_,I_,I_,I_,I_,I_,I_,I_,I_,I_,I_,I_,I_,I_,I_,I_,I_,I_,I_,I_,I_,I_,I_,I_,O_,O_,O_,O_,O_]) rfl hP32 hK32 (fun wS hS => (r_pickT (v := .bool true) rfl rfl)) ?_
      refine dT (i := 38) (listed' := #[I_,I_,I_,I_,I_,I_,I_,I_,I_,I_,I_,I_,I_,I_,I_,I_,I_,I_,I_,I_,I_,I_,I_,I_,I_,I_,I_,I_,I_,I_,I_,I_,I_,I_,I_,I_,I_,I_,I_,O_,O_,O_,O_]) rfl hP32 hK32 (fun wS hS => (r_move (v := .bool true) rfl)) ?_
      refine dS (i := 39) (listed' := #[I_,I_,I_,I_,I_,I_,I_,I_,I_,I_,I_,I_,I_,I_,I_,I_,I_,I_,I_,I_,I_,I_,I_,I_,I_,I_,I_,I_,I_,I_,I_,I_,I_,I_,I_,I_,I_,I_,I_,I_,O_,O_,O_]) rfl 50 hP32 rfl hK32 ?_
      refine dS (i := 40) (listed' := #[I_,I_,I_,I_,I_,I_,I_,I_,I_,I_,I_,I_,I_,I_,I_,I_,I_,I_,I_,I_,I_,I_,I_,I_,I_,I_,I_,I_,I_,I_,I_,I_,I_,I_,I_,I_,I_,I_,I_,I_,I_,O_,O_]) rfl 50 hP32 rfl hK32 ?_
      refine dS (i := 41) (listed' := #[I_,I_,I_,I_,I_,I_,I_,I_,I_,I_,I_,I_,I_,I_,I_,I_,I_,I_,I_,I_,I_,I_,I_,I_,I_,I_,I_,I_,I_,I_,I_,I_,I_,I_,I_,I_,I_,I_,I_,I_,I_,I_,O_]) rfl 50 hP32 rfl hK32 ?_
      refine dT (i := 42) (listed' := #[I_,I_,I_,I_,I_,I_,I_,I_,I_,I_,I_,I_,I_,I_,I_,I_,I_,I_,I_,I_,I_,I_,I_,I_,I_,I_,I_,I_,I_,I_,I_,I_,I_,I_,I_,I_,I_,I_,I_,I_,I_,I_,I_]) rfl hP32 hK32 (fun wS hS => (r_pickT (v := .bool true) rfl rfl)) ?_
      refine d_done (by kernel_rfl) ?_
      refine c_next ?_
      refine c_condT rfl ?_
      refine c_seq ?_
      refine c_reg ?_
      refine sv (r_assign (v := .bool false) rfl) ?_
      refine s_nil ?_
      refine c_next ?_
      refine c_ret ?_
      refine r_block ?_
      refine r_then ?_
      refine r_then ?_
      refine r_block ?_
      refine r_then ?_
      replace h := crossE h hyl19
      refine e_1 (v := .bool false) Try.results38 rfl ?_
      obtain ⟨hO34, e34⟩ := hO31.drop1
      rw [← Option.some.inj h]
      exact ⟨rfl, hO34, (e19.trans (e20.trans (e25.trans (e28.trans (e31.trans e34)))))⟩
    replace h := iF (Int.not_le.2 h18) h
    refine dT (i := 7) (listed' := #[I_,I_,I_,I_,I_,I_,I_,I_,O_,O_,O_,O_,O_,O_,O_,O_,O_,O_,O_,O_,O_,O_,O_,O_,O_,O_,O_,O_,O_,O_,O_,O_,O_,O_,O_,O_,O_,O_,O_,O_,O_,O_,O_]) rfl hP32 hK32 (fun wS hS => (r_pickF (v := .bool false) rfl rfl)) ?_
    refine dT (i := 8) (listed' := #[I_,I_,I_,I_,I_,I_,I_,I_,I_,O_,O_,O_,O_,O_,O_,O_,O_,O_,O_,O_,O_,O_,O_,O_,O_,O_,O_,O_,O_,O_,O_,O_,O_,O_,O_,O_,O_,O_,O_,O_,O_,O_,O_]) rfl hP32 hK32 (fun wS hS => (r_move (v := .bool false) rfl)) ?_
    refine dG (i := 9) (listed' := #[I_,I_,I_,I_,I_,I_,I_,I_,I_,I_,O_,O_,O_,O_,O_,O_,O_,O_,O_,O_,O_,O_,O_,O_,O_,O_,O_,O_,O_,O_,O_,O_,O_,O_,O_,O_,O_,O_,O_,O_,O_,O_,O_]) rfl 20 hP32 rfl hK32 (fun wS hS => (r_move (v := .int _ _) rfl)) ?_
    refine dt_gtrG (i := 10) (listed' := #[I_,I_,I_,I_,I_,I_,I_,I_,I_,I_,I_,O_,O_,O_,O_,O_,O_,O_,O_,O_,O_,O_,O_,O_,O_,O_,O_,O_,O_,O_,O_,O_,O_,O_,O_,O_,O_,O_,O_,O_,O_,O_,O_]) (by rfl) (by kernel_rfl) (by rfl) hP32.u 20 (by rfl) rfl hK32 rfl rfl (fun h22 => ?_) (fun h22 => ?_)
    · replace h := iT h22 h
      refine dG (i := 11) (listed' := #[I_,I_,I_,I_,I_,I_,I_,I_,I_,I_,I_,I_,O_,O_,O_,O_,O_,O_,O_,O_,O_,O_,O_,O_,O_,O_,O_,O_,O_,O_,O_,O_,O_,O_,O_,O_,O_,O_,O_,O_,O_,O_,O_]) rfl 20 hP32 rfl hK32 (fun wS hS => (r_move (v := .bool true) rfl)) ?_
      refine dG (i := 12) (listed' := #[I_,I_,I_,I_,I_,I_,I_,I_,I_,I_,I_,I_,I_,O_,O_,O_,O_,O_,O_,O_,O_,O_,O_,O_,O_,O_,O_,O_,O_,O_,O_,O_,O_,O_,O_,O_,O_,O_,O_,O_,O_,O_,O_]) rfl 23 hP32 rfl hK32 (fun wS hS => (r_fieldAddr Try.underlying56 rfl I3 (by decide) rfl)) ?_
      refine dG (i := 13) (listed' := #[I_,I_,I_,I_,I_,I_,I_,I_,I_,I_,I_,I_,I_,I_,O_,O_,O_,O_,O_,O_,O_,O_,O_,O_,O_,O_,O_,O_,O_,O_,O_,O_,O_,O_,O_,O_,O_,O_,O_,O_,O_,O_,O_]) rfl 23 hP32 rfl hK32 (fun wS hS => (r_load1 (v := .int _ _) Try.underlying3 rfl rfl (cellB (hS.own.get (i := 0) rfl) rfl rfl))) ?_
      refine dG (i := 14) (listed' := #[I_,I_,I_,I_,I_,I_,I_,I_,I_,I_,I_,I_,I_,I_,I_,O_,O_,O_,O_,O_,O_,O_,O_,O_,O_,O_,O_,O_,O_,O_,O_,O_,O_,O_,O_,O_,O_,O_,O_,O_,O_,O_,O_]) rfl 23 hP32 rfl hK32 (fun wS hS => (r_move (v := .slice _ _ _) rfl)) ?_
      refine dG (i := 15) (listed' := #[I_,I_,I_,I_,I_,I_,I_,I_,I_,I_,I_,I_,I_,I_,I_,I_,O_,O_,O_,O_,O_,O_,O_,O_,O_,O_,O_,O_,O_,O_,O_,O_,O_,O_,O_,O_,O_,O_,O_,O_,O_,O_,O_]) rfl 23 hP32 rfl hK32 (fun wS hS => (r_move (v := .int _ _) rfl)) ?_
      refine dG (i := 16) (listed' := #[I_,I_,I_,I_,I_,I_,I_,I_,I_,I_,I_,I_,I_,I_,I_,I_,I_,O_,O_,O_,O_,O_,O_,O_,O_,O_,O_,O_,O_,O_,O_,O_,O_,O_,O_,O_,O_,O_,O_,O_,O_,O_,O_]) rfl 23 hP32 rfl hK32 (fun wS hS => (r_subI (a := xl1_t7) (b := 1) rfl rfl)) ?_
      obtain ⟨y29, hy29, h⟩ := bindE h
      obtain ⟨ad29, had29, hk29⟩ := ix_known (e := e_roster_Device) (Rd.cs hR0p) e_roster_Device_len (by decide) hy29
      have hx29 : Value.slice aP0 mP0 cP0 = .slice (some ad29) mP0 cP0 := by rw [had29]
      refine dG (i := 17) (listed' := #[I_,I_,I_,I_,I_,I_,I_,I_,I_,I_,I_,I_,I_,I_,I_,I_,I_,I_,O_,O_,O_,O_,O_,O_,O_,O_,O_,O_,O_,O_,O_,O_,O_,O_,O_,O_,O_,O_,O_,O_,O_,O_,O_]) rfl 23 hP32 rfl hK32 (fun wS hS => (ra_idx (xs := x0) (i := (w64 (xl1_t7 - 1))) Try.underlying24 I56 (by exact hx29) (by rfl) hm0p hy29)) ?_
      refine dG (i := 18) (listed' := #[I_,I_,I_,I_,I_,I_,I_,I_,I_,I_,I_,I_,I_,I_,I_,I_,I_,I_,I_,O_,O_,O_,O_,O_,O_,O_,O_,O_,O_,O_,O_,O_,O_,O_,O_,O_,O_,O_,O_,O_,O_,O_,O_]) rfl 23 hP32 rfl hK32 (fun wS hS => (r_fieldAddr Try.underlying56 rfl I3 (by decide) rfl)) ?_
      refine dG (i := 19) (listed' := #[I_,I_,I_,I_,I_,I_,I_,I_,I_,I_,I_,I_,I_,I_,I_,I_,I_,I_,I_,I_,O_,O_,O_,O_,O_,O_,O_,O_,O_,O_,O_,O_,O_,O_,O_,O_,O_,O_,O_,O_,O_,O_,O_]) rfl 23 hP32 rfl hK32 (fun wS hS => (r_load1 (v := .int _ _) Try.underlying3 rfl rfl (cellP (hk29 _ (hR0p.kept hS)) 0 rfl))) ?_
      refine dt_leqG (i := 20) (listed' := #[I_,I_,I_,I_,I_,I_,I_,I_,I_,I_,I_,I_,I_,I_,I_,I_,I_,I_,I_,I_,I_,O_,O_,O_,O_,O_,O_,O_,O_,O_,O_,O_,O_,O_,O_,O_,O_,O_,O_,O_,O_,O_,O_]) (by rfl) (by kernel_rfl) (by rfl) hP32.u 23 (by rfl) rfl hK32 rfl rfl (fun h32 => ?_) (fun h32 => ?_)
      · replace h := iT h32 h
        refine dG (i := 21) (listed' := #[I_,I_,I_,I_,I_,I_,I_,I_,I_,I_,I_,I_,I_,I_,I_,I_,I_,I_,I_,I_,I_,I_,O_,O_,O_,O_,O_,O_,O_,O_,O_,O_,O_,O_,O_,O_,O_,O_,O_,O_,O_,O_,O_]) rfl 20 hP32 rfl hK32 (fun wS hS => (r_pickT (v := .bool true) rfl rfl)) ?_
        refine dT (i := 22) (listed' := #[I_,I_,I_,I_,I_,I_,I_,I_,I_,I_,I_,I_,I_,I_,I_,I_,I_,I_,I_,I_,I_,I_,I_,O_,O_,O_,O_,O_,O_,O_,O_,O_,O_,O_,O_,O_,O_,O_,O_,O_,O_,O_,O_]) rfl hP32 hK32 (fun wS hS => (r_pickF (v := .bool true) rfl rfl)) ?_
        refine dT (i := 23) (listed' := #[I_,I_,I_,I_,I_,I_,I_,I_,I_,I_,I_,I_,I_,I_,I_,I_,I_,I_,I_,I_,I_,I_,I_,I_,O_,O_,O_,O_,O_,O_,O_,O_,O_,O_,O_,O_,O_,O_,O_,O_,O_,O_,O_]) rfl hP32 hK32 (fun wS hS => (r_move (v := .bool true) rfl)) ?_
        refine dS (i := 24) (listed' := #[I_,I_,I_,I_,I_,I_,I_,I_,I_,I_,I_,I_,I_,I_,I_,I_,I_,I_,I_,I_,I_,I_,I_,I_,I_,O_,O_,O_,O_,O_,O_,O_,O_,O_,O_,O_,O_,O_,O_,O_,O_,O_,O_]) rfl 35 hP32 rfl hK32 ?_
        refine dS (i := 25) (listed' := #[I_,I_,I_,I_,I_,I_,I_,I_,I_,I_,I_,I_,I_,I_,I_,I_,I_,I_,I_,I_,I_,I_,I_,I_,I_,I_,O_,O_,O_,O_,O_,O_,O_,O_,O_,O_,O_,O_,O_,O_,O_,O_,O_]) rfl 35 hP32 rfl hK32 ?_
        refine dS (i := 26) (listed' := #[I_,I_,I_,I_,I_,I_,I_,I_,I_,I_,I_,I_,I_,I_,I_,I_,I_,I_,I_,I_,I_,I_,I_,I_,I_,I_,I_,O_,O_,O_,O_,O_,O_,O_,O_,O_,O_,O_,O_,O_,O_,O_,O_]) rfl 35 hP32 rfl hK32 ?_
        refine dT (i := 27) (listed' := #[I_,I_,I_,I_,I_,I_,I_,I_,I_,I_,I_,I_,I_,I_,I_,I_,I_,I_,I_,I_,I_,I_,I_,I_,I_,I_,I_,I_,O_,O_,O_,O_,O_,O_,O_,O_,O_,O_,O_,O_,O_,O_,O_]) rfl hP32 hK32 (fun wS hS => (r_pickT (v := .bool true) rfl rfl)) ?_
        refine dT (i := 28) (listed' := #[I_,I_,I_,I_,I_,I_,I_,I_,I_,I_,I_,I_,I_,I_,I_,I_,I_,I_,I_,I_,I_,I_,I_,I_,I_,I_,I_,I_,I_,O_,O_,O_,O_,O_,O_,O_,O_,O_,O_,O_,O_,O_,O_]) rfl hP32 hK32 (fun wS hS => (r_move (v := .bool true) rfl)) ?_
        refine dS (i := 29) (listed' := #[I_,I_,I_,I_,I_,I_,I_,I_,I_,I_,I_,I_,I_,I_,I_,I_,I_,I_,I_,I_,I_,I_,I_,I_,I_,I_,I_,I_,I_,I_,O_,O_,O_,O_,O_,O_,O_,O_,O_,O_,O_,O_,O_]) rfl 40 hP32 rfl hK32 ?_
        refine dS (i := 30) (listed' := #[I_,I_,I_,I_,I_,I_,I_,I_,I_,I_,I_,I_,I_,I_,I_,I_,I_,I_,I_,I_,I_,I_,I_,I_,I_,I_,I_,I_,I_,I_,I_,O_,O_,O_,O_,O_,O_,O_,O_,O_,O_,O_,O_]) rfl 40 hP32 rfl hK32 ?_
        refine dS (i := 31) (listed' := #[I_,I_,I_,I_,I_,I_,I_,I_,I_,I_,I_,I_,I_,I_,I_,I_,I_,I_,I_,I_,I_,I_,I_,I_,I_,I_,I_,I_,I_,I_,I_,I_,O_,O_,O_,O_,O_,O_,O_,O_,O_,O_,O_]) rfl 40 hP32 rfl hK32 ?_
        refine dT (i := 32) (listed' := #[I_,I_,I_,I_,I_,I_,I_,I_,I_,I_,I_,I_,I_,I_,I_,I_,I_,I_,I_,I_,I_,I_,I_,I_,I_,I_,I_,I_,I_,I_,I_,I_,I_,O_,O_,O_,O_,O_,O_,O_,O_,O_,O_]) rfl hP32 hK32 (fun wS hS => (r_pickT (v := .bool true) rfl rfl)) ?_
        refine dT (i := 33) (listed' := #[I_,I_,I_,I_,I_,I_,I_,I_,I_,I_,I_,I_,I_,I_,I_,I_,I_,I_,I_,I_,I_,I_,I_,I_,I_,I_,I_,I_,I_,I_,I_,I_,I_,I_,O_,O_,O_,O_,O_,O_,O_,O_,O_]) rfl hP32 hK32 (fun wS hS => (r_move (v := .bool true) rfl)) ?_
        refine dS (i := 34) (listed' := #[I_,I_,I_,I_,I_,I_,I_,I_,I_,I_,I_,I_,I_,I_,I_,I_,I_,I_,I_,I_,I_,I_,I_,I_,I_,I_,I_,I_,I_,I_,I_,I_,I_,I_,I_,O_,O_,O_,O_,O_,O_,O_,O_]) rfl 45 hP32 rfl hK32 ?_
        refine dS (i := 35) (listed' := #[I_,I_,I_,I_,I_,I_,I_,I_,I_,I_,I_,I_,I_,I_,I_,I_,I_,I_,I_,I_,I_,I_,I_,I_,I_,I_,I_,I_,I_,I_,I_,I_,I_,I_,I_,I_,O_,O_,O_,O_,O_,O_,O_]) rfl 45 hP32 rfl hK32 ?_
        refine dS (i := 36) (listed' := #[I_,I_,I_,I_,I_,I_,I_,I_,I_,I_,I_,I_,I_,I_,I_,I_,I_,I_,I_,I_,I_,I_,I_,I_,I_,I_,I_,I_,I_,I_,I_,I_,I_,I_,I_,I_,I_,O_,O_,O_,O_,O_,O_]) rfl 45 hP32 rfl hK32 ?_
        refine dT (i := 37) (listed' := #[I_,I_,I_,I_,I_,I_,I_,I_,I_,I_,I_,I_,I_,I_,I_,I_,I_,I_,I_,I_,I_,I_,I_,I_,I_,I_,I_,I_,I_,I_,I_,I_,I_,I_,I_,I_,I_,I_,O_,O_,O_,O_,O_]) rfl hP32 hK32 (fun wS hS => (r_pickT (v := .bool true) rfl rfl)) ?_
        refine dT (i := 38) (listed' := #[I_,I_,I_,I_,I_,I_,I_,I_,I_,I_,I_,I_,I_,I_,I_,I_,I_,I_,I_,I_,I_,I_,I_,I_,I_,I_,I_,I_,I_,I_,I_,I_,I_,I_,I_,I_,I_,I_,I_,O_,O_,O_,O_]) rfl hP32 hK32 (fun wS hS => (r_move (v := .bool true) rfl)) ?_
        refine dS (i := 39) (listed' := #[I_,I_,I_,I_,I_,I_,I_,I_,I_,I_,I_,I_,I_,I_,I_,I_,I_,I_,I_,I_,I_,I_,I_,I_,I_,I_,I_,I_,I_,I_,I_,I_,I_,I_,I_,I_,I_,I_,I_,I_,O_,O_,O_]) rfl 50 hP32 rfl hK32 ?_
        refine dS (i := 40) (listed' := #[I_,I_,I_,I_,I_,I_,I_,I_,I_,I_,I_,I_,I_,I_,I_,I_,I_,I_,I_,I_,I_,I_,I_,I_,I_,I_,I_,I_,I_,I_,I_,I_,I_,I_,I_,I_,I_,I_,I_,I_,I_,O_,O_]) rfl 50 hP32 rfl hK32 ?_
        refine dS (i := 41) (listed' := #[I_,I_,I_,I_,I_,I_,I_,I_,I_,I_,I_,I_,I_,I_,I_,I_,I_,I_,I_,I_,I_,I_,I_,I_,I_,I_,I_,I_,I_,I_,I_,I_,I_,I_,I_,I_,I_,I_,I_,I_,I_,I_,O_]) rfl 50 hP32 rfl hK32 ?_
        refine dT (i := 42) (listed' := #[I_,I_,I_,I_,I_,I_,I_,I_,I_,I_,I_,I_,I_,I_,I_,I_,I_,I_,I_,I_,I_,I_,I_,I_,I_,I_,I_,I_,I_,I_,I_,I_,I_,I_,I_,I_,I_,I_,I_,I_,I_,I_,I_]) rfl hP32 hK32 (fun wS hS => (r_pickT (v := .bool true) rfl rfl)) ?_
        refine d_done (by kernel_rfl) ?_
        refine c_next ?_
        refine c_condT rfl ?_
        refine c_seq ?_
        refine c_reg ?_
        refine sv (r_assign (v := .bool false) rfl) ?_
        refine s_nil ?_
        refine c_next ?_
        refine c_ret ?_
        refine r_block ?_
        refine r_then ?_
        refine r_then ?_
        refine r_block ?_
        refine r_then ?_
        replace h := crossE h hyl19
        refine e_1 (v := .bool false) Try.results38 rfl ?_
        obtain ⟨hO35, e35⟩ := hO31.drop1
        rw [← Option.some.inj h]
        exact ⟨rfl, hO35, (e19.trans (e20.trans (e25.trans (e28.trans (e31.trans e35)))))⟩
      replace h := iF (Int.not_le.2 h32) h
      refine dG (i := 21) (listed' := #[I_,I_,I_,I_,I_,I_,I_,I_,I_,I_,I_,I_,I_,I_,I_,I_,I_,I_,I_,I_,I_,I_,O_,O_,O_,O_,O_,O_,O_,O_,O_,O_,O_,O_,O_,O_,O_,O_,O_,O_,O_,O_,O_]) rfl 20 hP32 rfl hK32 (fun wS hS => (r_pickT (v := .bool false) rfl rfl)) ?_
      refine dT (i := 22) (listed' := #[I_,I_,I_,I_,I_,I_,I_,I_,I_,I_,I_,I_,I_,I_,I_,I_,I_,I_,I_,I_,I_,I_,I_,O_,O_,O_,O_,O_,O_,O_,O_,O_,O_,O_,O_,O_,O_,O_,O_,O_,O_,O_,O_]) rfl hP32 hK32 (fun wS hS => (r_pickF (v := .bool false) rfl rfl)) ?_
      refine dT (i := 23) (listed' := #[I_,I_,I_,I_,I_,I_,I_,I_,I_,I_,I_,I_,I_,I_,I_,I_,I_,I_,I_,I_,I_,I_,I_,I_,O_,O_,O_,O_,O_,O_,O_,O_,O_,O_,O_,O_,O_,O_,O_,O_,O_,O_,O_]) rfl hP32 hK32 (fun wS hS => (r_move (v := .bool false) rfl)) ?_
      refine dG (i := 24) (listed' := #[I_,I_,I_,I_,I_,I_,I_,I_,I_,I_,I_,I_,I_,I_,I_,I_,I_,I_,I_,I_,I_,I_,I_,I_,I_,O_,O_,O_,O_,O_,O_,O_,O_,O_,O_,O_,O_,O_,O_,O_,O_,O_,O_]) rfl 35 hP32 rfl hK32 (fun wS hS => (r_fieldAddr Try.underlying56 rfl I3 (by decide) rfl)) ?_
      refine dG (i := 25) (listed' := #[I_,I_,I_,I_,I_,I_,I_,I_,I_,I_,I_,I_,I_,I_,I_,I_,I_,I_,I_,I_,I_,I_,I_,I_,I_,I_,O_,O_,O_,O_,O_,O_,O_,O_,O_,O_,O_,O_,O_,O_,O_,O_,O_]) rfl 35 hP32 rfl hK32 (fun wS hS => (r_load1 (v := .int _ _) Try.underlying3 rfl rfl (cellB (hS.own.get (i := 0) rfl) rfl rfl))) ?_
      refine dt_lssG (i := 26) (listed' := #[I_,I_,I_,I_,I_,I_,I_,I_,I_,I_,I_,I_,I_,I_,I_,I_,I_,I_,I_,I_,I_,I_,I_,I_,I_,I_,I_,O_,O_,O_,O_,O_,O_,O_,O_,O_,O_,O_,O_,O_,O_,O_,O_]) (by rfl) (by kernel_rfl) (by rfl) hP32.u 35 (by rfl) rfl hK32 rfl rfl (fun h38 => ?_) (fun h38 => ?_)
      · replace h := iT h38 h
        refine dT (i := 27) (listed' := #[I_,I_,I_,I_,I_,I_,I_,I_,I_,I_,I_,I_,I_,I_,I_,I_,I_,I_,I_,I_,I_,I_,I_,I_,I_,I_,I_,I_,O_,O_,O_,O_,O_,O_,O_,O_,O_,O_,O_,O_,O_,O_,O_]) rfl hP32 hK32 (fun wS hS => (r_pickF (v := .bool true) rfl rfl)) ?_
        refine dT (i := 28) (listed' := #[I_,I_,I_,I_,I_,I_,I_,I_,I_,I_,I_,I_,I_,I_,I_,I_,I_,I_,I_,I_,I_,I_,I_,I_,I_,I_,I_,I_,I_,O_,O_,O_,O_,O_,O_,O_,O_,O_,O_,O_,O_,O_,O_]) rfl hP32 hK32 (fun wS hS => (r_move (v := .bool true) rfl)) ?_
        refine dS (i := 29) (listed' := #[I_,I_,I_,I_,I_,I_,I_,I_,I_,I_,I_,I_,I_,I_,I_,I_,I_,I_,I_,I_,I_,I_,I_,I_,I_,I_,I_,I_,I_,I_,O_,O_,O_,O_,O_,O_,O_,O_,O_,O_,O_,O_,O_]) rfl 40 hP32 rfl hK32 ?_
        refine dS (i := 30) (listed' := #[I_,I_,I_,I_,I_,I_,I_,I_,I_,I_,I_,I_,I_,I_,I_,I_,I_,I_,I_,I_,I_,I_,I_,I_,I_,I_,I_,I_,I_,I_,I_,O_,O_,O_,O_,O_,O_,O_,O_,O_,O_,O_,O_]) rfl 40 hP32 rfl hK32 ?_
        refine dS (i := 31) (listed' := #[I_,I_,I_,I_,I_,I_,I_,I_,I_,I_,I_,I_,I_,I_,I_,I_,I_,I_,I_,I_,I_,I_,I_,I_,I_,I_,I_,I_,I_,I_,I_,I_,O_,O_,O_,O_,O_,O_,O_,O_,O_,O_,O_]) rfl 40 hP32 rfl hK32 ?_
        refine dT (i := 32) (listed' := #[I_,I_,I_,I_,I_,I_,I_,I_,I_,I_,I_,I_,I_,I_,I_,I_,I_,I_,I_,I_,I_,I_,I_,I_,I_,I_,I_,I_,I_,I_,I_,I_,I_,O_,O_,O_,O_,O_,O_,O_,O_,O_,O_]) rfl hP32 hK32 (fun wS hS => (r_pickT (v := .bool true) rfl rfl)) ?_
        refine dT (i := 33) (listed' := #[I_,I_,I_,I_,I_,I_,I_,I_,I_,I_,I_,I_,I_,I_,I_,I_,I_,I_,I_,I_,I_,I_,I_,I_,I_,I_,I_,I_,I_,I_,I_,I_,I_,I_,O_,O_,O_,O_,O_,O_,O_,O_,O_]) rfl hP32 hK32 (fun wS hS => (r_move (v := .bool true) rfl)) ?_
        refine dS (i := 34) (listed' := #[I_,I_,I_,I_,I_,I_,I_,I_,I_,I_,I_,I_,I_,I_,I_,I_,I_,I_,I_,I_,I_,I_,I_,I_,I_,I_,I_,I_,I_,I_,I_,I_,I_,I_,I_,O_,O_,O_,O_,O_,O_,O_,O_]) rfl 45 hP32 rfl hK32 ?_
        refine dS (i := 35) (listed' := #[I_,I_,I_,I_,I_,I_,I_,I_,I_,I_,I_,I_,I_,I_,I_,I_,I_,I_,I_,I_,I_,I_,I_,I_,I_,I_,I_,I_,I_,I_,I_,I_,I_,I_,I_,I_,O_,O_,O_,O_,O_,O_,O_]) rfl 45 hP32 rfl hK32 ?_
        refine dS (i := 36) (listed' := #[I_,I_,I_,I_,I_,I_,I_,I_,I_,I_,I_,I_,I_,I_,I_,I_,I_,I_,I_,I_,I_,I_,I_,I_,I_,I_,I_,I_,I_,I_,I_,I_,I_,I_,I_,I_,I_,O_,O_,O_,O_,O_,O_]) rfl 45 hP32 rfl hK32 ?_
        refine dT (i := 37) (listed' := #[I_,I_,I_,I_,I_,I_,I_,I_,I_,I_,I_,I_,I_,I_,I_,I_,I_,I_,I_,I_,I_,I_,I_,I_,I_,I_,I_,I_,I_,I_,I_,I_,I_,I_,I_,I_,I_,I_,O_,O_,O_,O_,O_]) rfl hP32 hK32 (fun wS hS => (r_pickT (v := .bool true) rfl rfl)) ?_
        refine dT (i := 38) (listed' := #[I_,I_,I_,I_,I_,I_,I_,I_,I_,I_,I_,I_,I_,I_,I_,I_,I_,I_,I_,I_,I_,I_,I_,I_,I_,I_,I_,I_,I_,I_,I_,I_,I_,I_,I_,I_,I_,I_,I_,O_,O_,O_,O_]) rfl hP32 hK32 (fun wS hS => (r_move (v := .bool true) rfl)) ?_
        refine dS (i := 39) (listed' := #[I_,I_,I_,I_,I_,I_,I_,I_,I_,I_,I_,I_,I_,I_,I_,I_,I_,I_,I_,I_,I_,I_,I_,I_,I_,I_,I_,I_,I_,I_,I_,I_,I_,I_,I_,I_,I_,I_,I_,I_,O_,O_,O_]) rfl 50 hP32 rfl hK32 ?_
        refine dS (i := 40) (listed' := #[I_,I_,I_,I_,I_,I_,I_,I_,I_,I_,I_,I_,I_,I_,I_,I_,I_,I_,I_,I_,I_,I_,I_,I_,I_,I_,I_,I_,I_,I_,I_,I_,I_,I_,I_,I_,I_,I_,I_,I_,I_,O_,O_]) rfl 50 hP32 rfl hK32 ?_
        refine dS (i := 41) (listed' := #[I_,I_,I_,I_,I_,I_,I_,I_,I_,I_,I_,I_,I_,I_,I_,I_,I_,I_,I_,I_,I_,I_,I_,I_,I_,I_,I_,I_,I_,I_,I_,I_,I_,I_,I_,I_,I_,I_,I_,I_,I_,I_,O_]) rfl 50 hP32 rfl hK32 ?_
        refine dT (i := 42) (listed' := #[I_,I_,I_,I_,I_,I_,I_,I_,I_,I_,I_,I_,I_,I_,I_,I_,I_,I_,I_,I_,I_,I_,I_,I_,I_,I_,I_,I_,I_,I_,I_,I_,I_,I_,I_,I_,I_,I_,I_,I_,I_,I_,I_]) rfl hP32 hK32 (fun wS hS => (r_pickT (v := .bool true) rfl rfl)) ?_
        refine d_done (by kernel_rfl) ?_
        refine c_next ?_
        refine c_condT rfl ?_
        refine c_seq ?_
        refine c_reg ?_
        refine sv (r_assign (v := .bool false) rfl) ?_
        refine s_nil ?_
        refine c_next ?_
        refine c_ret ?_
        refine r_block ?_
        refine r_then ?_
        refine r_then ?_
        refine r_block ?_
        refine r_then ?_
        replace h := crossE h hyl19
        refine e_1 (v := .bool false) Try.results38 rfl ?_
        obtain ⟨hO36, e36⟩ := hO31.drop1
        rw [← Option.some.inj h]
        exact ⟨rfl, hO36, (e19.trans (e20.trans (e25.trans (e28.trans (e31.trans e36)))))⟩
      replace h := iF (Int.not_lt.2 h38) h
      refine dT (i := 27) (listed' := #[I_,I_,I_,I_,I_,I_,I_,I_,I_,I_,I_,I_,I_,I_,I_,I_,I_,I_,I_,I_,I_,I_,I_,I_,I_,I_,I_,I_,O_,O_,O_,O_,O_,O_,O_,O_,O_,O_,O_,O_,O_,O_,O_]) rfl hP32 hK32 (fun wS hS => (r_pickF (v := .bool false) rfl rfl)) ?_
      refine dT (i := 28) (listed' := #[I_,I_,I_,I_,I_,I_,I_,I_,I_,I_,I_,I_,I_,I_,I_,I_,I_,I_,I_,I_,I_,I_,I_,I_,I_,I_,I_,I_,I_,O_,O_,O_,O_,O_,O_,O_,O_,O_,O_,O_,O_,O_,O_]) rfl hP32 hK32 (fun wS hS => (r_move (v := .bool false) rfl)) ?_
      refine dG (i := 29) (listed' := #[I_,I_,I_,I_,I_,I_,I_,I_,I_,I_,I_,I_,I_,I_,I_,I_,I_,I_,I_,I_,I_,I_,I_,I_,I_,I_,I_,I_,I_,I_,O_,O_,O_,O_,O_,O_,O_,O_,O_,O_,O_,O_,O_]) rfl 40 hP32 rfl hK32 (fun wS hS => (r_fieldAddr Try.underlying56 rfl I3 (by decide) rfl)) ?_
      refine dG (i := 30) (listed' := #[I_,I_,I_,I_,I_,I_,I_,I_,I_,I_,I_,I_,I_,I_,I_,I_,I_,I_,I_,I_,I_,I_,I_,I_,I_,I_,I_,I_,I_,I_,I_,O_,O_,O_,O_,O_,O_,O_,O_,O_,O_,O_,O_]) rfl 40 hP32 rfl hK32 (fun wS hS => (r_load1 (v := .int _ _) Try.underlying3 rfl rfl (cellB (hS.own.get (i := 0) rfl) rfl rfl))) ?_
      refine dt_gtrG (i := 31) (listed' := #[I_,I_,I_,I_,I_,I_,I_,I_,I_,I_,I_,I_,I_,I_,I_,I_,I_,I_,I_,I_,I_,I_,I_,I_,I_,I_,I_,I_,I_,I_,I_,I_,O_,O_,O_,O_,O_,O_,O_,O_,O_,O_,O_]) (by rfl) (by kernel_rfl) (by rfl) hP32.u 40 (by rfl) rfl hK32 rfl rfl (fun h43 => ?_) (fun h43 => ?_)
      · replace h := iT h43 h
        refine dT (i := 32) (listed' := #[I_,I_,I_,I_,I_,I_,I_,I_,I_,I_,I_,I_,I_,I_,I_,I_,I_,I_,I_,I_,I_,I_,I_,I_,I_,I_,I_,I_,I_,I_,I_,I_,I_,O_,O_,O_,O_,O_,O_,O_,O_,O_,O_]) rfl hP32 hK32 (fun wS hS => (r_pickF (v := .bool true) rfl rfl)) ?_
        refine dT (i := 33) (listed' := #[I_,I_,I_,I_,I_,I_,I_,I_,I_,I_,I_,I_,I_,I_,I_,I_,I_,I_,I_,I_,I_,I_,I_,I_,I_,I_,I_,I_,I_,I_,I_,I_,I_,I_,O_,O_,O_,O_,O_,O_,O_,O_,O_]) rfl hP32 hK32 (fun wS hS => (r_move (v := .bool true) rfl)) ?_
        refine dS (i := 34) (listed' := #[I_,I_,I_,I_,I_,I_,I_,I_,I_,I_,I_,I_,I_,I_,I_,I_,I_,I_,I_,I_,I_,I_,I_,I_,I_,I_,I_,I_,I_,I_,I_,I_,I_,I_,I_,O_,O_,O_,O_,O_,O_,O_,O_]) rfl 45 hP32 rfl hK32 ?_
        refine dS (i := 35) (listed' := #[I_,I_,I_,I_,I_,I_,I_,I_,I_,I_,I_,I_,I_,I_,I_,I_,I_,I_,I_,I_,I_,I_,I_,I_,I_,I_,I_,I_,I_,I_,I_,I_,I_,I_,I_,I_,O_,O_,O_,O_,O_,O_,O_]) rfl 45 hP32 rfl hK32 ?_
        refine dS (i := 36) (listed' := #[I_,I_,I_,I_,I_,I_,I_,I_,I_,I_,I_,I_,I_,I_,I_,I_,I_,I_,I_,I_,I_,I_,I_,I_,I_,I_,I_,I_,I_,I_,I_,I_,I_,I_,I_,I_,I_,O_,O_,O_,O_,O_,O_]) rfl 45 hP32 rfl hK32 ?_
        refine dT (i := 37) (listed' := #[I_,I_,I_,I_,I_,I_,I_,I_,I_,I_,I_,I_,I_,I_,I_,I_,I_,I_,I_,I_,I_,I_,I_,I_,I_,I_,I_,I_,I_,I_,I_,I_,I_,I_,I_,I_,I_,I_,O_,O_,O_,O_,O_]) rfl hP32 hK32 (fun wS hS => (r_pickT (v := .bool true) rfl rfl)) ?_
        refine dT (i := 38) (listed' := #[I_,I_,I_,I_,I_,I_,I_,I_,I_,I_,I_,I_,I_,I_,I_,I_,I_,I_,I_,I_,I_,I_,I_,I_,I_,I_,I_,I_,I_,I_,I_,I_,I_,I_,I_,I_,I_,I_,I_,O_,O_,O_,O_]) rfl hP32 hK32 (fun wS hS => (r_move (v := .bool true) rfl)) ?_
        refine dS (i := 39) (listed' := #[I_,I_,I_,I_,I_,I_,I_,I_,I_,I_,I_,I_,I_,I_,I_,I_,I_,I_,I_,I_,I_,I_,I_,I_,I_,I_,I_,I_,I_,I_,I_,I_,I_,I_,I_,I_,I_,I_,I_,I_,O_,O_,O_]) rfl 50 hP32 rfl hK32 ?_
        refine dS (i := 40) (listed' := #[I_,I_,I_,I_,I_,I_,I_,I_,I_,I_,I_,I_,I_,I_,I_,I_,I_,I_,I_,I_,I_,I_,I_,I_,I_,I_,I_,I_,I_,I_,I_,I_,I_,I_,I_,I_,I_,I_,I_,I_,I_,O_,O_]) rfl 50 hP32 rfl hK32 ?_
        refine dS (i := 41) (listed' := #[I_,I_,I_,I_,I_,I_,I_,I_,I_,I_,I_,I_,I_,I_,I_,I_,I_,I_,I_,I_,I_,I_,I_,I_,I_,I_,I_,I_,I_,I_,I_,I_,I_,I_,I_,I_,I_,I_,I_,I_,I_,I_,O_]) rfl 50 hP32 rfl hK32 ?_
        refine dT (i := 42) (listed' := #[I_,I_,I_,I_,I_,I_,I_,I_,I_,I_,I_,I_,I_,I_,I_,I_,I_,I_,I_,I_,I_,I_,I_,I_,I_,I_,I_,I_,I_,I_,I_,I_,I_,I_,I_,I_,I_,I_,I_,I_,I_,I_,I_]) rfl hP32 hK32 (fun wS hS => (r_pickT (v := .bool true) rfl rfl)) ?_
        refine d_done (by kernel_rfl) ?_
        refine c_next ?_
        refine c_condT rfl ?_
        refine c_seq ?_
        refine c_reg ?_
        refine sv (r_assign (v := .bool false) rfl) ?_
        refine s_nil ?_
        refine c_next ?_
        refine c_ret ?_
        refine r_block ?_
        refine r_then ?_
        refine r_then ?_
        refine r_block ?_
        refine r_then ?_
        replace h := crossE h hyl19
        refine e_1 (v := .bool false) Try.results38 rfl ?_
        obtain ⟨hO37, e37⟩ := hO31.drop1
        rw [← Option.some.inj h]
        exact ⟨rfl, hO37, (e19.trans (e20.trans (e25.trans (e28.trans (e31.trans e37)))))⟩
      replace h := iF (Int.not_lt.2 h43) h
      refine dT (i := 32) (listed' := #[I_,I_,I_,I_,I_,I_,I_,I_,I_,I_,I_,I_,I_,I_,I_,I_,I_,I_,I_,I_,I_,I_,I_,I_,I_,I_,I_,I_,I_,I_,I_,I_,I_,O_,O_,O_,O_,O_,O_,O_,O_,O_,O_]) rfl hP32 hK32 (fun wS hS => (r_pickF (v := .bool false) rfl rfl)) ?_
      refine dT (i := 33) (listed' := #[I_,I_,I_,I_,I_,I_,I_,I_,I_,I_,I_,I_,I_,I_,I_,I_,I_,I_,I_,I_,I_,I_,I_,I_,I_,I_,I_,I_,I_,I_,I_,I_,I_,I_,O_,O_,O_,O_,O_,O_,O_,O_,O_]) rfl hP32 hK32 (fun wS hS => (r_move (v := .bool false) rfl)) ?_
      refine dG (i := 34) (listed' := #[I_,I_,I_,I_,I_,I_,I_,I_,I_,I_,I_,I_,I_,I_,I_,I_,I_,I_,I_,I_,I_,I_,I_,I_,I_,I_,I_,I_,I_,I_,I_,I_,I_,I_,I_,O_,O_,O_,O_,O_,O_,O_,O_]) rfl 45 hP32 rfl hK32 (fun wS hS => (r_fieldAddr Try.underlying56 rfl I3 (by decide) rfl)) ?_
      refine dG (i := 35) (listed' := #[I_,I_,I_,I_,I_,I_,I_,I_,I_,I_,I_,I_,I_,I_,I_,I_,I_,I_,I_,I_,I_,I_,I_,I_,I_,I_,I_,I_,I_,I_,I_,I_,I_,I_,I_,I_,O_,O_,O_,O_,O_,O_,O_]) rfl 45 hP32 rfl hK32 (fun wS hS => (r_load1 (v := .int _ _) Try.underlying3 rfl rfl (cellB (hS.own.get (i := 0) rfl) rfl rfl))) ?_
      refine dt_lssG (i := 36) (listed' := #[I_,I_,I_,I_,I_,I_,I_,I_,I_,I_,I_,I_,I_,I_,I_,I_,I_,I_,I_,I_,I_,I_,I_,I_,I_,I_,I_,I_,I_,I_,I_,I_,I_,I_,I_,I_,I_,O_,O_,O_,O_,O_,O_]) (by rfl) (by kernel_rfl) (by rfl) hP32.u 45 (by rfl) rfl hK32 rfl rfl (fun h48 => ?_) (fun h48 => ?_)
      · replace h := iT h48 h
        refine dT (i := 37) (listed' := #[I_,I_,I_,I_,I_,I_,I_,I_,I_,I_,I_,I_,I_,I_,I_,I_,I_,I_,I_,I_,I_,I_,I_,I_,I_,I_,I_,I_,I_,I_,I_,I_,I_,I_,I_,I_,I_,I_,O_,O_,O_,O_,O_]) rfl hP32 hK32 (fun wS hS => (r_pickF (v := .bool true) rfl rfl)) ?_
        refine dT (i := 38) (listed' := #[I_,I_,I_,I_,I_,I_,I_,I_,I_,I_,I_,I_,I_,I_,I_,I_,I_,I_,I_,I_,I_,I_,I_,I_,I_,I_,I_,I_,I_,I_,I_,I_,I_,I_,I_,I_,I_,I_,I_,O_,O_,O_,O_]) rfl hP32 hK32 (fun wS hS => (r_move (v := .bool true) rfl)) ?_
        refine dS (i := 39) (listed' := #[I_,I_,I_,I_,I_,I_,I_,I_,I_,I_,I_,I_,I_,I_,I_,I_,I_,I_,I_,I_,I_,I_,I_,I_,I_,I_,I_,I_,I_,I_,I_,I_,I_,I_,I_,I_,I_,I_,I_,I_,O_,O_,O_]) rfl 50 hP32 rfl hK32 ?_
        refine dS (i := 40) (listed' := #[I_,I_,I_,I_,I_,I_,I_,I_,I_,I_,I_,I_,I_,I_,I_,I_,I_,I_,I_,I_,I_,I_,I_,I_,I_,I_,I_,I_,I_,I_,I_,I_,I_,I_,I_,I_,I_,I_,I_,I_,I_,O_,O_]) rfl 50 hP32 rfl hK32 ?_
        refine dS (i := 41) (listed' := #[I_,I_,I_,I_,I_,I_,I_,I_,I_,I_,I_,I_,I_,I_,I_,I_,I_,I_,I_,I_,I_,I_,I_,I_,I_,I_,I_,I_,I_,I_,I_,I_,I_,I_,I_,I_,I_,I_,I_,I_,I_,I_,O_]) rfl 50 hP32 rfl hK32 ?_
        refine dT (i := 42) (listed' := #[I_,I_,I_,I_,I_,I_,I_,I_,I_,I_,I_,I_,I_,I_,I_,I_,I_,I_,I_,I_,I_,I_,I_,I_,I_,I_,I_,I_,I_,I_,I_,I_,I_,I_,I_,I_,I_,I_,I_,I_,I_,I_,I_]) rfl hP32 hK32 (fun wS hS => (r_pickT (v := .bool true) rfl rfl)) ?_
        refine d_done (by kernel_rfl) ?_
        refine c_next ?_
        refine c_condT rfl ?_
        refine c_seq ?_
        refine c_reg ?_
        refine sv (r_assign (v := .bool false) rfl) ?_
        refine s_nil ?_
        refine c_next ?_
        refine c_ret ?_
        refine r_block ?_
        refine r_then ?_
        refine r_then ?_
        refine r_block ?_
        refine r_then ?_
        replace h := crossE h hyl19
        refine e_1 (v := .bool false) Try.results38 rfl ?_
        obtain ⟨hO38, e38⟩ := hO31.drop1
        rw [← Option.some.inj h]
        exact ⟨rfl, hO38, (e19.trans (e20.trans (e25.trans (e28.trans (e31.trans e38)))))⟩
      replace h := iF (Int.not_lt.2 h48) h
      refine dT (i := 37) (listed' := #[I_,I_,I_,I_,I_,I_,I_,I_,I_,I_,I_,I_,I_,I_,I_,I_,I_,I_,I_,I_,I_,I_,I_,I_,I_,I_,I_,I_,I_,I_,I_,I_,I_,I_,I_,I_,I_,I_,O_,O_,O_,O_,O_]) rfl hP32 hK32 (fun wS hS => (r_pickF (v := .bool false) rfl rfl)) ?_
      refine dT (i := 38) (listed' := #[I_,I_,I_,I_,I_,I_,I_,I_,I_,I_,I_,I_,I_,I_,I_,I_,I_,I_,I_,I_,I_,I_,I_,I_,I_,I_,I_,I_,I_,I_,I_,I_,I_,I_,I_,I_,I_,I_,I_,O_,O_,O_,O_]) rfl hP32 hK32 (fun wS hS => (r_move (v := .bool false) rfl)) ?_
      refine dG (i := 39) (listed' := #[I_,I_,I_,I_,I_,I_,I_,I_,I_,I_,I_,I_,I_,I_,I_,I_,I_,I_,I_,I_,I_,I_,I_,I_,I_,I_,I_,I_,I_,I_,I_,I_,I_,I_,I_,I_,I_,I_,I_,I_,O_,O_,O_]) rfl 50 hP32 rfl hK32 (fun wS hS => (r_fieldAddr Try.underlying56 rfl I3 (by decide) rfl)) ?_
      refine dG (i := 40) (listed' := #[I_,I_,I_,I_,I_,I_,I_,I_,I_,I_,I_,I_,I_,I_,I_,I_,I_,I_,I_,I_,I_,I_,I_,I_,I_,I_,I_,I_,I_,I_,I_,I_,I_,I_,I_,I_,I_,I_,I_,I_,I_,O_,O_]) rfl 50 hP32 rfl hK32 (fun wS hS => (r_load1 (v := .int _ _) Try.underlying3 rfl rfl (cellB (hS.own.get (i := 0) rfl) rfl rfl))) ?_
      refine dt_gtrG (i := 41) (listed' := #[I_,I_,I_,I_,I_,I_,I_,I_,I_,I_,I_,I_,I_,I_,I_,I_,I_,I_,I_,I_,I_,I_,I_,I_,I_,I_,I_,I_,I_,I_,I_,I_,I_,I_,I_,I_,I_,I_,I_,I_,I_,I_,O_]) (by rfl) (by kernel_rfl) (by rfl) hP32.u 50 (by rfl) rfl hK32 rfl rfl (fun h53 => ?_) (fun h53 => ?_)
      · replace h := iT h53 h
        refine dT (i := 42) (listed' := #[I_,I_,I_,I_,I_,I_,I_,I_,I_,I_,I_,I_,I_,I_,I_,I_,I_,I_,I_,I_,I_,I_,I_,I_,I_,I_,I_,I_,I_,I_,I_,I_,I_,I_,I_,I_,I_,I_,I_,I_,I_,I_,I_]) rfl hP32 hK32 (fun wS hS => (r_pickF (v := .bool true) rfl rfl)) ?_
        refine d_done (by kernel_rfl) ?_
        refine c_next ?_
        refine c_condT rfl ?_
        refine c_seq ?_
        refine c_reg ?_
        refine sv (r_assign (v := .bool false) rfl) ?_
        refine s_nil ?_
        refine c_next ?_
        refine c_ret ?_
        refine r_block ?_
        refine r_then ?_
        refine r_then ?_
        refine r_block ?_
        refine r_then ?_
        replace h := crossE h hyl19
        refine e_1 (v := .bool false) Try.results38 rfl ?_
        obtain ⟨hO39, e39⟩ := hO31.drop1
        rw [← Option.some.inj h]
        exact ⟨rfl, hO39, (e19.trans (e20.trans (e25.trans (e28.trans (e31.trans e39)))))⟩
      replace h := iF (Int.not_lt.2 h53) h
      refine dT (i := 42) (listed' := #[I_,I_,I_,I_,I_,I_,I_,I_,I_,I_,I_,I_,I_,I_,I_,I_,I_,I_,I_,I_,I_,I_,I_,I_,I_,I_,I_,I_,I_,I_,I_,I_,I_,I_,I_,I_,I_,I_,I_,I_,I_,I_,I_]) rfl hP32 hK32 (fun wS hS => (r_pickF (v := .bool false) rfl rfl)) ?_
      refine d_done (by kernel_rfl) ?_
      refine c_next ?_
      refine c_condF rfl ?_
      refine c_skip ?_
      refine x_norm ?_
      refine c_next ?_
      refine c_reg ?_
      refine sv (r_addI (a := xl1_t7) (b := 1) rfl rfl) ?_
      refine sv (r_move (v := .int _ _) rfl) ?_
      refine s_nil ?_
      refine l_end (m' := kl19) (Nat.lt_succ_self _) ?_
      rw [← Option.some.inj h] at hyl19
      obtain ⟨hO40, e40⟩ := hO31.drop1
      exact ⟨(w64 (xl1_t7 + 1)), hyl19, rfl, rfl, rfl, rfl, hO40, (e19.trans (e20.trans (e25.trans (e28.trans (e31.trans e40)))))⟩
    replace h := iF (Int.not_lt.2 h22) h
    refine dG (i := 11) (listed' := #[I_,I_,I_,I_,I_,I_,I_,I_,I_,I_,I_,I_,O_,O_,O_,O_,O_,O_,O_,O_,O_,O_,O_,O_,O_,O_,O_,O_,O_,O_,O_,O_,O_,O_,O_,O_,O_,O_,O_,O_,O_,O_,O_]) rfl 20 hP32 rfl hK32 (fun wS hS => (r_move (v := .bool false) rfl)) ?_
    refine dS (i := 12) (listed' := #[I_,I_,I_,I_,I_,I_,I_,I_,I_,I_,I_,I_,I_,O_,O_,O_,O_,O_,O_,O_,O_,O_,O_,O_,O_,O_,O_,O_,O_,O_,O_,O_,O_,O_,O_,O_,O_,O_,O_,O_,O_,O_,O_]) rfl 23 hP32 rfl hK32 ?_
    refine dS (i := 13) (listed' := #[I_,I_,I_,I_,I_,I_,I_,I_,I_,I_,I_,I_,I_,I_,O_,O_,O_,O_,O_,O_,O_,O_,O_,O_,O_,O_,O_,O_,O_,O_,O_,O_,O_,O_,O_,O_,O_,O_,O_,O_,O_,O_,O_]) rfl 23 hP32 rfl hK32 ?_
    refine dS (i := 14) (listed' := #[I_,I_,I_,I_,I_,I_,I_,I_,I_,I_,I_,I_,I_,I_,I_,O_,O_,O_,O_,O_,O_,O_,O_,O_,O_,O_,O_,O_,O_,O_,O_,O_,O_,O_,O_,O_,O_,O_,O_,O_,O_,O_,O_]) rfl 23 hP32 rfl hK32 ?_
    refine dS (i := 15) (listed' := #[I_,I_,I_,I_,I_,I_,I_,I_,I_,I_,I_,I_,I_,I_,I_,I_,O_,O_,O_,O_,O_,O_,O_,O_,O_,O_,O_,O_,O_,O_,O_,O_,O_,O_,O_,O_,O_,O_,O_,O_,O_,O_,O_]) rfl 23 hP32 rfl hK32 ?_
    refine dS (i := 16) (listed' := #[I_,I_,I_,I_,I_,I_,I_,I_,I_,I_,I_,I_,I_,I_,I_,I_,I_,O_,O_,O_,O_,O_,O_,O_,O_,O_,O_,O_,O_,O_,O_,O_,O_,O_,O_,O_,O_,O_,O_,O_,O_,O_,O_]) rfl 23 hP32 rfl hK32 ?_
    refine dS (i := 17) (listed' := #[I_,I_,I_,I_,I_,I_,I_,I_,I_,I_,I_,I_,I_,I_,I_,I_,I_,I_,O_,O_,O_,O_,O_,O_,O_,O_,O_,O_,O_,O_,O_,O_,O_,O_,O_,O_,O_,O_,O_,O_,O_,O_,O_]) rfl 23 hP32 rfl hK32 ?_
    refine dS (i := 18) (listed' := #[I_,I_,I_,I_,I_,I_,I_,I_,I_,I_,I_,I_,I_,I_,I_,I_,I_,I_,I_,O_,O_,O_,O_,O_,O_,O_,O_,O_,O_,O_,O_,O_,O_,O_,O_,O_,O_,O_,O_,O_,O_,O_,O_]) rfl 23 hP32 rfl hK32 ?_
    refine dS (i := 19) (listed' := #[I_,I_,I_,I_,I_,I_,I_,I_,I_,I_,I_,I_,I_,I_,I_,I_,I_,I_,I_,I_,O_,O_,O_,O_,O_,O_,O_,O_,O_,O_,O_,O_,O_,O_,O_,O_,O_,O_,O_,O_,O_,O_,O_]) rfl 23 hP32 rfl hK32 ?_
    refine dS (i := 20) (listed' := #[I_,I_,I_,I_,I_,I_,I_,I_,I_,I_,I_,I_,I_,I_,I_,I_,I_,I_,I_,I_,I_,O_,O_,O_,O_,O_,O_,O_,O_,O_,O_,O_,O_,O_,O_,O_,O_,O_,O_,O_,O_,O_,O_]) rfl 23 hP32 rfl hK32 ?_
    refine dG (i := 21) (listed' := #[I_,I_,I_,I_,I_,I_,I_,I_,I_,I_,I_,I_,I_,I_,I_,I_,I_,I_,I_,I_,I_,I_,O_,O_,O_,O_,O_,O_,O_,O_,O_,O_,O_,O_,O_,O_,O_,O_,O_,O_,O_,O_,O_]) rfl 20 hP32 rfl hK32 (fun wS hS => (r_pickF (v := .bool false) rfl rfl)) ?_
    refine dT (i := 22) (listed' := #[I_,I_,I_,I_,I_,I_,I_,I_,I_,I_,I_,I_,I_,I_,I_,I_,I_,I_,I_,I_,I_,I_,I_,O_,O_,O_,O_,O_,O_,O_,O_,O_,O_,O_,O_,O_,O_,O_,O_,O_,O_,O_,O_]) rfl hP32 hK32 (fun wS hS => (r_pickF (v := .bool false) rfl rfl)) ?_
    refine dT (i := 23) (listed' := #[I_,I_,I_,I_,I_,I_,I_,I_,I_,I_,I_,I_,I_,I_,I_,I_,I_,I_,I_,I_,I_,I_,I_,I_,O_,O_,O_,O_,O_,O_,O_,O_,O_,O_,O_,O_,O_,O_,O_,O_,O_,O_,O_]) rfl hP32 hK32 (fun wS hS => (r_move (v := .bool false) rfl)) ?_
    refine dG (i := 24) (listed' := #[I_,I_,I_,I_,I_,I_,I_,I_,I_,I_,I_,I_,I_,I_,I_,I_,I_,I_,I_,I_,I_,I_,I_,I_,I_,O_,O_,O_,O_,O_,O_,O_,O_,O_,O_,O_,O_,O_,O_,O_,O_,O_,O_]) rfl 35 hP32 rfl hK32 (fun wS hS => (r_fieldAddr Try.underlying56 rfl I3 (by decide) rfl)) ?_
    refine dG (i := 25) (listed' := #[I_,I_,I_,I_,I_,I_,I_,I_,I_,I_,I_,I_,I_,I_,I_,I_,I_,I_,I_,I_,I_,I_,I_,I_,I_,I_,O_,O_,O_,O_,O_,O_,O_,O_,O_,O_,O_,O_,O_,O_,O_,O_,O_]) rfl 35 hP32 rfl hK32 (fun wS hS => (r_load1 (v := .int _ _) Try.underlying3 rfl rfl (cellB (hS.own.get (i := 0) rfl) rfl rfl))) ?_
    refine dt_lssG (i := 26) (listed' := #[I_,I_,I_,I_,I_,I_,I_,I_,I_,I_,I_,I_,I_,I_,I_,I_,I_,I_,I_,I_,I_,I_,I_,I_,I_,I_,I_,O_,O_,O_,O_,O_,O_,O_,O_,O_,O_,O_,O_,O_,O_,O_,O_]) (by rfl) (by kernel_rfl) (by rfl) hP32.u 35 (by rfl) rfl hK32 rfl rfl (fun h38 => ?_) (fun h38 => ?_)
    · replace h := iT h38 h
      refine dT (i := 27) (listed' := #[I_,I_,I_,I_,I_,I_,I_,I_,I_,I_,I_,I_,I_,I_,I_,I_,I_,I_,I_,I_,I_,I_,I_,I_,I_,I_,I_,I_,O_,O_,O_,O_,O_,O_,O_,O_,O_,O_,O_,O_,O_,O_,O_]) rfl hP32 hK32 (fun wS hS => (r_pickF (v := .bool true) rfl rfl)) ?_
      refine dT (i := 28) (listed' := #[I_,I_,I_,I_,I_,I_,I_,I_,I_,I_,I_,I_,I_,I_,I_,I_,I_,I_,I_,I_,I_,I_,I_,I_,I_,I_,I_,I_,I_,O_,O_,O_,O_,O_,O_,O_,O_,O_,O_,O_,O_,O_,O_]) rfl hP32 hK32 (fun wS hS => (r_move (v := .bool true) rfl)) ?_
      refine dS (i := 29) (listed' := #[I_,I_,I_,I_,I_,I_,I_,I_,I_,I_,I_,I_,I_,I_,I_,I_,I_,I_,I_,I_,I_,I_,I_,I_,I_,I_,I_,I_,I_,I_,O_,O_,O_,O_,O_,O_,O_,O_,O_,O_,O_,O_,O_]) rfl 40 hP32 rfl hK32 ?_
      refine dS (i := 30) (listed' := #[I_,I_,I_,I_,I_,I_,I_,I_,I_,I_,I_,I_,I_,I_,I_,I_,I_,I_,I_,I_,I_,I_,I_,I_,I_,I_,I_,I_,I_,I_,I_,O_,O_,O_,O_,O_,O_,O_,O_,O_,O_,O_,O_]) rfl 40 hP32 rfl hK32 ?_
      refine dS (i := 31) (listed' := #[I_,I_,I_,I_,I_,I_,I_,I_,I_,I_,I_,I_,I_,I_,I_,I_,I_,I_,I_,I_,I_,I_,I_,I_,I_,I_,I_,I_,I_,I_,I_,I_,O_,O_,O_,O_,O_,O_,O_,O_,O_,O_,O_]) rfl 40 hP32 rfl hK32 ?_
      refine dT (i := 32) (listed' := #[I_,I_,I_,I_,I_,I_,I_,I_,I_,I_,I_,I_,I_,I_,I_,I_,I_,I_,I_,I_,I_,I_,I_,I_,I_,I_,I_,I_,I_,I_,I_,I_,I_,O_,O_,O_,O_,O_,O_,O_,O_,O_,O_]) rfl hP32 hK32 (fun wS hS => (r_pickT (v := .bool true) rfl rfl)) ?_
      refine dT (i := 33) (listed' := #[I_,I_,I_,I_,I_,I_,I_,I_,I_,I_,I_,I_,I_,I_,I_,I_,I_,I_,I_,I_,I_,I_,I_,I_,I_,I_,I_,I_,I_,I_,I_,I_,I_,I_,O_,O_,O_,O_,O_,O_,O_,O_,O_]) rfl hP32 hK32 (fun wS hS => (r_move (v := .bool true) rfl)) ?_
      refine dS (i := 34) (listed' := #[I_,I_,I_,I_,I_,I_,I_,I_,I_,I_,I_,I_,I_,I_,I_,I_,I_,I_,I_,I_,I_,I_,I_,I_,I_,I_,I_,I_,I_,I_,I_,I_,I_,I_,I_,O_,O_,O_,O_,O_,O_,O_,O_]) rfl 45 hP32 rfl hK32 ?_
      refine dS (i := 35) (listed' := #[I_,I_,I_,I_,I_,I_,I_,I_,I_,I_,I_,I_,I_,I_,I_,I_,I_,I_,I_,I_,I_,I_,I_,I_,I_,I_,I_,I_,I_,I_,I_,I_,I_,I_,I_,I_,O_,O_,O_,O_,O_,O_,O_]) rfl 45 hP32 rfl hK32 ?_
      refine dS (i := 36) (listed' := #[I_,I_,I_,I_,I_,I_,I_,I_,I_,I_,I_,I_,I_,I_,I_,I_,I_,I_,I_,I_,I_,I_,I_,I_,I_,I_,I_,I_,I_,I_,I_,I_,I_,I_,I_,I_,I_,O_,O_,O_,O_,O_,O_]) rfl 45 hP32 rfl hK32 ?_
      refine dT (i := 37) (listed' := #[I_,I_,I_,I_,I_,I_,I_,I_,I_,I_,I_,I_,I_,I_,I_,I_,I_,I_,I_,I_,I_,I_,I_,I_,I_,I_,I_,I_,I_,I_,I_,I_,I_,I_,I_,I_,I_,I_,O_,O_,O_,O_,O_]) rfl hP32 hK32 (fun wS hS => (r_pickT (v := .bool true) rfl rfl)) ?_
      refine dT (i := 38) (listed' := #[I_,I_,I_,I_,I_,I_,I_,I_,I_,I_,I_,I_,I_,I_,I_,I_,I_,I_,I_,I_,I_,I_,I_,I_,I_,I_,I_,I_,I_,I_,I_,I_,I_,I_,I_,I_,I_,I_,I_,O_,O_,O_,O_]) rfl hP32 hK32 (fun wS hS => (r_move (v := .bool true) rfl)) ?_
      refine dS (i := 39) (listed' := #[I_,I_,I_,I_,I_,I_,I_,I_,I_,I_,I_,I_,I_,I_,I_,I_,I_,I_,I_,I_,I_,I_,I_,I_,I_,I_,I_,I_,I_,I_,I_,I_,I_,I_,I_,I_,I_,I_,I_,I_,O_,O_,O_]) rfl 50 hP32 rfl hK32 ?_
      refine dS (i := 40) (listed' := #[I_,I_,I_,I_,I_,I_,I_,I_,I_,I_,I_,I_,I_,I_,I_,I_,I_,I_,I_,I_,I_,I_,I_,I_,I_,I_,I_,I_,I_,I_,I_,I_,I_,I_,I_,I_,I_,I_,I_,I_,I_,O_,O_]) rfl 50 hP32 rfl hK32 ?_
      refine dS (i := 41) (listed' := #[I_,I_,I_,I_,I_,I_,I_,I_,I_,I_,I_,I_,I_,I_,I_,I_,I_,I_,I_,I_,I_,I_,I_,I_,I_,I_,I_,I_,I_,I_,I_,I_,I_,I_,I_,I_,I_,I_,I_,I_,I_,I_,O_]) rfl 50 hP32 rfl hK32 ?_
      refine dT (i := 42) (listed' := #[I_,I_,I_,I_,I_,I_,I_,I_,I_,I_,I_,I_,I_,I_,I_,I_,I_,I_,I_,I_,I_,I_,I_,I_,I_,I_,I_,I_,I_,I_,I_,I_,I_,I_,I_,I_,I_,I_,I_,I_,I_,I_,I_]) rfl hP32 hK32 (fun wS hS => (r_pickT (v := .bool true) rfl rfl)) ?_
      refine d_done (by kernel_rfl) ?_
      refine c_next ?_
      refine c_condT rfl ?_
      refine c_seq ?_
      refine c_reg ?_
      refine sv (r_assign (v := .bool false) rfl) ?_
      refine s_nil ?_
      refine c_next ?_
      refine c_ret ?_
      refine r_block ?_
      refine r_then ?_
      refine r_then ?_
      refine r_block ?_
      refine r_then ?_
      replace h := crossE h hyl19
      refine e_1 (v := .bool false) Try.results38 rfl ?_
      obtain ⟨hO41, e41⟩ := hO31.drop1
      rw [← Option.some.inj h]
      exact ⟨rfl, hO41, (e19.trans (e20.trans (e25.trans (e28.trans (e31.trans e41)))))⟩
    replace h := iF (Int.not_lt.2 h38) h
    refine dT (i := 27) (listed' := #[I_,I_,I_,I_,I_,I_,I_,I_,I_,I_,I_,I_,I_,I_,I_,I_,I_,I_,I_,I_,I_,I_,I_,I_,I_,I_,I_,I_,O_,O_,O_,O_,O_,O_,O_,O_,O_,O_,O_,O_,O_,O_,O_]) rfl hP32 hK32 (fun wS hS => (r_pickF (v := .bool false) rfl rfl)) ?_
    refine dT (i := 28) (listed' := #[I_,I_,I_,I_,I_,I_,I_,I_,I_,I_,I_,I_,I_,I_,I_,I_,I_,I_,I_,I_,I_,I_,I_,I_,I_,I_,I_,I_,I_,O_,O_,O_,O_,O_,O_,O_,O_,O_,O_,O_,O_,O_,O_]) rfl hP32 hK32 (fun wS hS => (r_move (v := .bool false) rfl)) ?_
    refine dG (i := 29) (listed' := #[I_,I_,I_,I_,I_,I_,I_,I_,I_,I_,I_,I_,I_,I_,I_,I_,I_,I_,I_,I_,I_,I_,I_,I_,I_,I_,I_,I_,I_,I_,O_,O_,O_,O_,O_,O_,O_,O_,O_,O_,O_,O_,O_]) rfl 40 hP32 rfl hK32 (fun wS hS => (r_fieldAddr Try.underlying56 rfl I3 (by decide) rfl)) ?_
    refine dG (i := 30) (listed' := #[I_,I_,I_,I_,I_,I_,I_,I_,I_,I_,I_,I_,I_,I_,I_,I_,I_,I_,I_,I_,I_,I_,I_,I_,I_,I_,I_,I_,I_,I_,I_,O_,O_,O_,O_,O_,O_,O_,O_,O_,O_,O_,O_]) rfl 40 hP32 rfl hK32 (fun wS hS => (r_load1 (v := .int _ _) Try.underlying3 rfl rfl (cellB (hS.own.get (i := 0) rfl) rfl rfl))) ?_
    refine dt_gtrG (i := 31) (listed' := #[I_,I_,I_,I_,I_,I_,I_,I_,I_,I_,I_,I_,I_,I_,I_,I_,I_,I_,I_,I_,I_,I_,I_,I_,I_,I_,I_,I_,I_,I_,I_,I_,O_,O_,O_,O_,O_,O_,O_,O_,O_,O_,O_]) (by rfl) (by kernel_rfl) (by rfl) hP32.u 40 (by rfl) rfl hK32 rfl rfl (fun h43 => ?_) (fun h43 => ?_)
    · replace h := iT h43 h
      refine dT (i := 32) (listed' := #[I_,I_,I_,I_,I_,I_,I_,I_,I_,I_,I_,I_,I_,I_,I_,I_,I_,I_,I_,I_,I_,I_,I_,I_,I_,I_,I_,I_,I_,I_,I_,I_,I_,O_,O_,O_,O_,O_,O_,O_,O_,O_,O_]) rfl hP32 hK32 (fun wS hS => (r_pickF (v := .bool true) rfl rfl)) ?_
      refine dT (i := 33) (listed' := #[I_,I_,I_,I_,I_,I_,I_,I_,I_,I_,I_,I_,I_,I_,I_,I_,I_,I_,I_,I_,I_,I_,I_,I_,I_,I_,I_,I_,I_,I_,I_,I_,I_,I_,O_,O_,O_,O_,O_,O_,O_,O_,O_]) rfl hP32 hK32 (fun wS hS => (r_move (v := .bool true) rfl)) ?_
      refine dS (i := 34) (listed' := #[I_,I_,I_,I_,I_,I_,I_,I_,I_,I_,I_,I_,I_,I_,I_,I_,I_,I_,I_,I_,I_,I_,I_,I_,I_,I_,I_,I_,I_,I_,I_,I_,I_,I_,I_,O_,O_,O_,O_,O_,O_,O_,O_]) rfl 45 hP32 rfl hK32 ?_
      refine dS (i := 35) (listed' := #[I_,I_,I_,I_,I_,I_,I_,I_,I_,I_,I_,I_,I_,I_,I_,I_,I_,I_,I_,I_,I_,I_,I_,I_,I_,I_,I_,I_,I_,I_,I_,I_,I_,I_,I_,I_,O_,O_,O_,O_,O_,O_,O_]) rfl 45 hP32 rfl hK32 ?_
      refine dS (i := 36) (listed' := #[I_,I_,I_,I_,I_,I_,I_,I_,I_,I_,I_,I_,I_,I_,I_,I_,I_,I_,I_,I_,I_,I_,I_,I_,I_,I_,I_,I_,I_,I_,I_,I_,I_,I_,I_,I_,I_,O_,O_,O_,O_,O_,O_]) rfl 45 hP32 rfl hK32 ?_
      refine dT (i := 37) (listed' := #[I_,I_,I_,I_,I_,I_,I_,I_,I_,I_,I_,I_,I_,I_,I_,I_,I_,I_,I_,I_,I_,I_,I_,I_,I_,I_,I_,I_,I_,I_,I_,I_,I_,I_,I_,I_,I_,I_,O_,O_,O_,O_,O_]) rfl hP32 hK32 (fun wS hS => (r_pickT (v := .bool true) rfl rfl)) ?_
      refine dT (i := 38) (listed' := #[I_,I_,I_,I_,I_,I_,I_,I_,I_,I_,I_,I_,I_,I_,I_,I_,I_,I_,I_,I_,I_,I_,I_,I_,I_,I_,I_,I_,I_,I_,I_,I_,I_,I_,I_,I_,I_,I_,I_,O_,O_,O_,O_]) rfl hP32 hK32 (fun wS hS => (r_move (v := .bool true) rfl)) ?_
      refine dS (i := 39) (listed' := #[I_,I_,I_,I_,I_,I_,I_,I_,I_,I_,I_,I_,I_,I_,I_,I_,I_,I_,I_,I_,I_,I_,I_,I_,I_,I_,I_,I_,I_,I_,I_,I_,I_,I_,I_,I_,I_,I_,I_,I_,O_,O_,O_]) rfl 50 hP32 rfl hK32 ?_
      refine dS (i := 40) (listed' := #[I_,I_,I_,I_,I_,I_,I_,I_,I_,I_,I_,I_,I_,I_,I_,I_,I_,I_,I_,I_,I_,I_,I_,I_,I_,I_,I_,I_,I_,I_,I_,I_,I_,I_,I_,I_,I_,I_,I_,I_,I_,O_,O_]) rfl 50 hP32 rfl hK32 ?_
      refine dS (i := 41) (listed' := #[I_,I_,I_,I_,I_,I_,I_,I_,I_,I_,I_,I_,I_,I_,I_,I_,I_,I_,I_,I_,I_,I_,I_,I_,I_,I_,I_,I_,I_,I_,I_,I_,I_,I_,I_,I_,I_,I_,I_,I_,I_,I_,O_]) rfl 50 hP32 rfl hK32 ?_
      refine dT (i := 42) (listed' := #[I_,I_,I_,I_,I_,I_,I_,I_,I_,I_,I_,I_,I_,I_,I_,I_,I_,I_,I_,I_,I_,I_,I_,I_,I_,I_,I_,I_,I_,I_,I_,I_,I_,I_,I_,I_,I_,I_,I_,I_,I_,I_,I_]) rfl hP32 hK32 (fun wS hS => (r_pickT (v := .bool true) rfl rfl)) ?_
      refine d_done (by kernel_rfl) ?_
      refine c_next ?_
      refine c_condT rfl ?_
      refine c_seq ?_
      refine c_reg ?_
      refine sv (r_assign (v := .bool false) rfl) ?_
      refine s_nil ?_
      refine c_next ?_
      refine c_ret ?_
      refine r_block ?_
      refine r_then ?_
      refine r_then ?_
      refine r_block ?_
      refine r_then ?_
      replace h := crossE h hyl19
      refine e_1 (v := .bool false) Try.results38 rfl ?_
      obtain ⟨hO42, e42⟩ := hO31.drop1
      rw [← Option.some.inj h]
      exact ⟨rfl, hO42, (e19.trans (e20.trans (e25.trans (e28.trans (e31.trans e42)))))⟩
    replace h := iF (Int.not_lt.2 h43) h
    refine dT (i := 32) (listed' := #[I_,I_,I_,I_,I_,I_,I_,I_,I_,I_,I_,I_,I_,I_,I_,I_,I_,I_,I_,I_,I_,I_,I_,I_,I_,I_,I_,I_,I_,I_,I_,I_,I_,O_,O_,O_,O_,O_,O_,O_,O_,O_,O_]) rfl hP32 hK32 (fun wS hS => (r_pickF (v := .bool false) rfl rfl)) ?_
    refine dT (i := 33) (listed' := #[I_,I_,I_,I_,I_,I_,I_,I_,I_,I_,I_,I_,I_,I_,I_,I_,I_,I_,I_,I_,I_,I_,I_,I_,I_,I_,I_,I_,I_,I_,I_,I_,I_,I_,O_,O_,O_,O_,O_,O_,O_,O_,O_]) rfl hP32 hK32 (fun wS hS => (r_move (v := .bool false) rfl)) ?_
    refine dG (i := 34) (listed' := #[I_,I_,I_,I_,I_,I_,I_,I_,I_,I_,I_,I_,I_,I_,I_,I_,I_,I_,I_,I_,I_,I_,I_,I_,I_,I_,I_,I_,I_,I_,I_,I_,I_,I_,I_,O_,O_,O_,O_,O_,O_,O_,O_]) rfl 45 hP32 rfl hK32 (fun wS hS => (r_fieldAddr Try.underlying56 rfl I3 (by decide) rfl)) ?_
    refine dG (i := 35) (listed' := #[I_,I_,I_,I_,I_,I_,I_,I_,I_,I_,I_,I_,I_,I_,I_,I_,I_,I_,I_,I_,I_,I_,I_,I_,I_,I_,I_,I_,I_,I_,I_,I_,I_,I_,I_,I_,O_,O_,O_,O_,O_,O_,O_]) rfl 45 hP32 rfl hK32 (fun wS hS => (r_load1 (v := .int _ _) Try.underlying3 rfl rfl (cellB (hS.own.get (i := 0) rfl) rfl rfl))) ?_
    refine dt_lssG (i := 36) (listed' := #[I_,I_,I_,I_,I_,I_,I_,I_,I_,I_,I_,I_,I_,I_,I_,I_,I_,I_,I_,I_,I_,I_,I_,I_,I_,I_,I_,I_,I_,I_,I_,I_,I_,I_,I_,I_,I_,O_,O_,O_,O_,O_,O_]) (by rfl) (by kernel_rfl) (by rfl) hP32.u 45 (by rfl) rfl hK32 rfl rfl (fun h48 => ?_) (fun h48 => ?_)
    · replace h := iT h48 h
      refine dT (i := 37) (listed' := #[I_,I_,I_,I_,I_,I_,I_,I_,I_,I_,I_,I_,I_,I_,I_,I_,I_,I_,I_,I_,I_,I_,I_,I_,I_,I_,I_,I_,I_,I_,I_,I_,I_,I_,I_,I_,I_,I_,O_,O_,O_,O_,O_]) rfl hP32 hK32 (fun wS hS => (r_pickF (v := .bool true) rfl rfl)) ?_
      refine dT (i := 38) (listed' := #[I_,I_,I_,I_,I_,I_,I_,I_,I_,I_,I_,I_,I_,I_,I_,I_,I_,I_,I_,I_,I_,I_,I_,I_,I_,I_,I_,I_,I_,I_,I_,I_,I_,I_,I_,I_,I_,I_,I_,O_,O_,O_,O_]) rfl hP32 hK32 (fun wS hS => (r_move (v := .bool true) rfl)) ?_
      refine dS (i := 39) (listed' := #[I_,I_,I_,I_,I_,I_,I_,I_,I_,I_,I_,I_,I_,I_,I_,I_,I_,I_,I_,I_,I_,I_,I_,I_,I_,I_,I_,I_,I_,I_,I_,I_,I_,I_,I_,I_,I_,I_,I_,I_,O_,O_,O_]) rfl 50 hP32 rfl hK32 ?_
      refine dS (i := 40) (listed' := #[I_,I_,I_,I_,I_,I_,I_,I_,I_,I_,I_,I_,I_,I_,I_,I_,I_,I_,I_,I_,I_,I_,I_,I_,I_,I_,I_,I_,I_,I_,I_,I_,I_,I_,I_,I_,I_,I_,I_,I_,I_,O_,O_]) rfl 50 hP32 rfl hK32 ?_
      refine dS (i := 41) (listed' := #[I_,I_,I_,I_,I_,I_,I_,I_,I_,I_,I_,I_,I_,I_,I_,I_,I_,I_,I_,I_,I_,I_,I_,I_,I_,I_,I_,I_,I_,I_,I_,I_,I_,I_,I_,I_,I_,I_,I_,I_,I_,I_,O_]) rfl 50 hP32 rfl hK32 ?_
      refine dT (i := 42) (listed' := #[I_,I_,I_,I_,I_,I_,I_,I_,I_,I_,I_,I_,I_,I_,I_,I_,I_,I_,I_,I_,I_,I_,I_,I_,I_,I_,I_,I_,I_,I_,I_,I_,I_,I_,I_,I_,I_,I_,I_,I_,I_,I_,I_]) rfl hP32 hK32 (fun wS hS => (r_pickT (v := .bool true) rfl rfl)) ?_
      refine d_done (by kernel_rfl) ?_
      refine c_next ?_
      refine c_condT rfl ?_
      refine c_seq ?_
      refine c_reg ?_
      refine sv (r_assign (v := .bool false) rfl) ?_
      refine s_nil ?_
      refine c_next ?_
      refine c_ret ?_
      refine r_block ?_
      refine r_then ?_
      refine r_then ?_
      refine r_block ?_
      refine r_then ?_
      replace h := crossE h hyl19
      refine e_1 (v := .bool false) Try.results38 rfl ?_
      obtain ⟨hO43, e43⟩ := hO31.drop1
      rw [← Option.some.inj h]
      exact ⟨rfl, hO43, (e19.trans (e20.trans (e25.trans (e28.trans (e31.trans e43)))))⟩
    replace h := iF (Int.not_lt.2 h48) h
    refine dT (i := 37) (listed' := #[I_,I_,I_,I_,I_,I_,I_,I_,I_,I_,I_,I_,I_,I_,I_,I_,I_,I_,I_,I_,I_,I_,I_,I_,I_,I_,I_,I_,I_,I_,I_,I_,I_,I_,I_,I_,I_,I_,O_,O_,O_,O_,O_]) rfl hP32 hK32 (fun wS hS => (r_pickF (v := .bool false) rfl rfl)) ?_
    refine dT (i := 38) (listed' := #[I_,I_,I_,I_,I_,I_,I_,I_,I_,I_,I_,I_,I_,I_,I_,I_,I_,I_,I_,I_,I_,I_,I_,I_,I_,I_,I_,I_,I_,I_,I_,I_,I_,I_,I_,I_,I_,I_,I_,O_,O_,O_,O_]) rfl hP32 hK32 (fun wS hS => (r_move (v := .bool false) rfl)) ?_
    refine dG (i := 39) (listed' := #[I_,I_,I_,I_,I_,I_,I_,I_,I_,I_,I_,I_,I_,I_,I_,I_,I_,I_,I_,I_,I_,I_,I_,I_,I_,I_,I_,I_,I_,I_,I_,I_,I_,I_,I_,I_,I_,I_,I_,I_,O_,O_,O_]) rfl 50 hP32 rfl hK32 (fun wS hS => (r_fieldAddr Try.underlying56 rfl I3 (by decide) rfl)) ?_
    refine dG (i := 40) (listed' := #[I_,I_,I_,I_,I_,I_,I_,I_,I_,I_,I_,I_,I_,I_,I_,I_,I_,I_,I_,I_,I_,I_,I_,I_,I_,I_,I_,I_,I_,I_,I_,I_,I_,I_,I_,I_,I_,I_,I_,I_,I_,O_,O_]) rfl 50 hP32 rfl hK32 (fun wS hS => (r_load1 (v := .int _ _) Try.underlying3 rfl rfl (cellB (hS.own.get (i := 0) rfl) rfl rfl))) ?_
    refine dt_gtrG (i := 41) (listed' := #[I_,I_,I_,I_,I_,I_,I_,I_,I_,I_,I_,I_,I_,I_,I_,I_,I_,I_,I_,I_,I_,I_,I_,I_,I_,I_,I_,I_,I_,I_,I_,I_,I_,I_,I_,I_,I_,I_,I_,I_,I_,I_,O_]) (by rfl) (by kernel_rfl) (by rfl) hP32.u 50 (by rfl) rfl hK32 rfl rfl (fun h53 => ?_) (fun h53 => ?_)
    · replace h := iT h53 h
      refine dT (i := 42) (listed' := #[I_,I_,I_,I_,I_,I_,I_,I_,I_,I_,I_,I_,I_,I_,I_,I_,I_,I_,I_,I_,I_,I_,I_,I_,I_,I_,I_,I_,I_,I_,I_,I_,I_,I_,I_,I_,I_,I_,I_,I_,I_,I_,I_]) rfl hP32 hK32 (fun wS hS => (r_pickF (v := .bool true) rfl rfl)) ?_
      refine d_done (by kernel_rfl) ?_
      refine c_next ?_
      refine c_condT rfl ?_
      refine c_seq ?_
      refine c_reg ?_
      refine sv (r_assign (v := .bool false) rfl) ?_
      refine s_nil ?_
      refine c_next ?_
      refine c_ret ?_
      refine r_block ?_
      refine r_then ?_
      refine r_then ?_
      refine r_block ?_
      refine r_then ?_
      replace h := crossE h hyl19
      refine e_1 (v := .bool false) Try.results38 rfl ?_
      obtain ⟨hO44, e44⟩ := hO31.drop1
      rw [← Option.some.inj h]
      exact ⟨rfl, hO44, (e19.trans (e20.trans (e25.trans (e28.trans (e31.trans e44)))))⟩
    replace h := iF (Int.not_lt.2 h53) h
    refine dT (i := 42) (listed' := #[I_,I_,I_,I_,I_,I_,I_,I_,I_,I_,I_,I_,I_,I_,I_,I_,I_,I_,I_,I_,I_,I_,I_,I_,I_,I_,I_,I_,I_,I_,I_,I_,I_,I_,I_,I_,I_,I_,I_,I_,I_,I_,I_]) rfl hP32 hK32 (fun wS hS => (r_pickF (v := .bool false) rfl rfl)) ?_
    refine d_done (by kernel_rfl) ?_
    refine c_next ?_
    refine c_condF rfl ?_
    refine c_skip ?_
    refine x_norm ?_
    refine c_next ?_
    refine c_reg ?_
    refine sv (r_addI (a := xl1_t7) (b := 1) rfl rfl) ?_
    refine sv (r_move (v := .int _ _) rfl) ?_
    refine s_nil ?_
    refine l_end (m' := kl19) (Nat.lt_succ_self _) ?_
    rw [← Option.some.inj h] at hyl19
    obtain ⟨hO45, e45⟩ := hO31.drop1
    exact ⟨(w64 (xl1_t7 + 1)), hyl19, rfl, rfl, rfl, rfl, hO45, (e19.trans (e20.trans (e25.trans (e28.trans (e31.trans e45)))))⟩
  replace h := iF (nt hb22) h
  refine c_condF (congrArg Value.bool hb22) ?_
  refine c_exit ?_
  refine x_then ?_
  refine x_then ?_
  refine x_same ?_
  replace h := crossE h hyl19
  refine c_next ?_
  refine c_seq ?_
  refine c_reg ?_
  refine sv (r_assign (v := .bool true) rfl) ?_
  refine s_nil ?_
  refine c_next ?_
  refine c_ret ?_
  refine e_1 (v := .bool true) Try.results38 rfl ?_
  rw [← Option.some.inj h]
  exact ⟨rfl, hO20, (e19.trans e20)⟩
theorem c_ticket_Right (x0 : (List T_ticket_Ticket)) (aP0 : Option Addr) (mP0 cP0 : Nat)  (r : Bool) (h : F_ticket_Right x0 = some r) (w : World) (L : Hp) (hm0p : x0.length = mP0) (hc0p : mP0 ≤ cP0) (hR0p : Rd w L aP0 (fl e_ticket_Ticket x0)) (hO : Own w L) :
    Calls Try.prog 39 #[(.slice aP0 mP0 cP0)] w fun en w' => en = .returned (.bool r) ∧ Own w' L ∧ Ext w L w' L := by
  unfold F_ticket_Right at h
  refine enter (n := 34) [(.slice aP0 mP0 cP0)] Try.func39 rfl rfl (Nat.le_of_ble_eq_true rfl) ?_
  refine c_seq ?_
  refine c_reg ?_
  refine sv (r_assign (v := .bool false) rfl) ?_
  refine s_nil ?_
  refine c_next ?_
  refine c_seq ?_
  refine c_seq ?_
  refine c_reg ?_
  refine sv (r_move (v := .slice _ _ _) rfl) ?_
  refine sv (r_lenL (xs := x0) Try.underlying25 rfl hm0p) ?_
  refine sv (r_move (v := .int _ _) rfl) ?_
  refine s_nil ?_
  refine c_next ?_
  refine c_block ?_
  obtain ⟨kl25, hkl25⟩ := loop_iff.1 h
  clear h
  refine c_loopL hO (fun Lc f0 m g wl => ∃ (xl1_t7 : Int), (iterK (ticket_Right_l1 x0) m xl1_t7 = some r) ∧ g 0 = (.slice aP0 mP0 cP0) ∧ g 5 = (.slice aP0 mP0 cP0) ∧ g 6 = (.int .i64 ((x0.length : Int))) ∧ g 7 = (.int .i64 xl1_t7) ∧ Own wl L ∧ Ext w Lc wl L) kl25 ?_ ?_
  · skip
    exact ⟨0, hkl25, rfl, rfl, rfl, rfl, hO, (Ext.refl _ _)⟩
  clear hkl25
  intro mm25 gg25 w25 hI25
  obtain ⟨xl1_t7, hkl25, hsl1_0, hsl1_5, hsl1_6, hsl1_7, hO25, e25⟩ := hI25
  obtain ⟨kl25, yl25, rfl, h, hyl25⟩ := iterE hkl25
  clear hkl25
  obtain ⟨qq25, rfl⟩ := fr4 hsl1_0 hsl1_5 hsl1_6 hsl1_7
  clear hsl1_0 hsl1_5 hsl1_6 hsl1_7
  have hR0p := (hR0p.ext e25)
  obtain ⟨oc26, G26, hG26, h, hr26⟩ := bindG h
  refine c_cutL hO25 (fun Lc f0 g w' => ∃ (xc2_t8 : Bool), (G26 xc2_t8 = some yl25) ∧ g 0 = (.slice aP0 mP0 cP0) ∧ g 5 = (.slice aP0 mP0 cP0) ∧ g 6 = (.int .i64 ((x0.length : Int))) ∧ g 7 = (.int .i64 xl1_t7) ∧ g 8 = (.bool xc2_t8) ∧ Own w' L ∧ Ext w25 Lc w' L) ?_ ?_
  · skip
    refine c_reg ?_
    refine c_lss rfl rfl (fun h8 => ?_) (fun h8 => ?_)
    · replace h := iT h8 h
      refine s_nil ?_
      refine c_next ?_
      rw [← Option.some.inj h] at hr26
      exact ⟨_, rfl, true, hr26, rfl, rfl, rfl, rfl, rfl, hO25, (Ext.refl _ _)⟩
    replace h := iF (Int.not_lt.2 h8) h
    refine s_nil ?_
    refine c_next ?_
    rw [← Option.some.inj h] at hr26
    exact ⟨_, rfl, false, hr26, rfl, rfl, rfl, rfl, rfl, hO25, (Ext.refl _ _)⟩
  intro gg26 w26 hI26
  clear h hr26
  obtain ⟨xc2_t8, h, hsc2_0, hsc2_5, hsc2_6, hsc2_7, hsc2_8, hO26, e26⟩ := hI26
  replace h := hG_ hG26 h; clear hG26
  obtain ⟨qq26, rfl⟩ := fr5 hsc2_0 hsc2_5 hsc2_6 hsc2_7 hsc2_8
  clear hsc2_0 hsc2_5 hsc2_6 hsc2_7 hsc2_8
  refine c_seq ?_
  rcases Bool.eq_false_or_eq_true (xc2_t8) with hb28 | hb28
  · replace h := iT hb28 h
    refine c_condT (congrArg Value.bool hb28) ?_
    refine c_skip ?_
    refine c_next ?_
    refine c_seq ?_
    refine c_block ?_
    refine c_seq ?_
    refine c_reg ?_
    refine sv (r_move (v := .int _ _) rfl) ?_
    obtain ⟨y10, hy10, h⟩ := bindE h
    refine a_idx (e := e_ticket_Ticket) (xs := x0) (i := xl1_t7) Try.underlying25 I59 rfl rfl (Rd.cs (hR0p.ext e26)) e_ticket_Ticket_len (by decide) hm0p hy10 ?_
    intro p10 hp10
    refine s_loadN (cs := [(.int .i64 y10.No), (.int .i64 y10.For), (.int .i64 y10.Until)]) Try.underlying59 rfl I59 rfl rfl hp10 ?_
    refine s_alloc I59 hO26 ?_
    intro b4 w40 hz4 hl4 hO40 e40
    have hO41 : Own w40 ((b4, .cells #[(.int .i64 0), (.int .i64 0), (.int .i64 0)] 59 (0, 0)) :: L) := hO40
    refine sv (r_assign (v := .int _ _) rfl) ?_
    refine s_storeN (vs := #[(.int .i64 y10.No), (.int .i64 y10.For), (.int .i64 y10.Until)]) I59 rfl rfl rfl hO41 (i := 0) rfl (Nat.le_of_ble_eq_true rfl) (List.all_eq_true.1 rfl) ?_
    intro w43 hO43 e43
    have hO44 : Own w43 ((b4, .cells #[(.int .i64 y10.No), (.int .i64 y10.For), (.int .i64 y10.Until)] 59 (0, 0)) :: L) := hO43
    refine s_nil ?_
    refine c_next ?_
    refine c_seq ?_
    have hR0p := (hR0p.ext (e26.trans (e40.trans e43)))
    refine d_startL hO44 hO44 18 (by kernel_rfl) (pk_then (pk_block (pk_then (pk_then (pk_block (pk_then pk_body)))))) ?_
    intro hP52 wd52 hK52 hO51 e51
    refine dT (i := 0) (listed' := #[I_,O_,O_,O_,O_,O_,O_,O_,O_,O_,O_,O_,O_,O_,O_,O_,O_,O_]) rfl hP52 hK52 (fun wS hS => (rl_all Try.underlying59 rfl I59 rfl (hS.own.get (i := 0) rfl) rfl rfl)) ?_
    refine d1 (i := 1) (listed' := #[I_,I_,O_,O_,O_,O_,O_,O_,O_,O_,O_,O_,O_,O_,O_,O_,O_,O_]) ?_
    obtain ⟨y13, hy13, h⟩ := bindE h
    refine s_call cf54 rfl (c_ticket_one y10 _ hy13 _ _ hO51) ?_
    rintro er13 w53 ⟨rfl, hO53, e53⟩
    refine ⟨_, rfl, ?_⟩
    have hK54 : Kept w43 _ _ w53 := Kept.to (e51.trans e53) hO53
    refine d_back hK54 ?_
    refine dT (i := 2) (listed' := #[I_,I_,I_,O_,O_,O_,O_,O_,O_,O_,O_,O_,O_,O_,O_,O_,O_,O_]) rfl hP52 hK54 (fun wS hS => (r_not (b := y13) rfl)) ?_
    refine dT (i := 3) (listed' := #[I_,I_,I_,I_,O_,O_,O_,O_,O_,O_,O_,O_,O_,O_,O_,O_,O_,O_]) rfl hP52 hK54 (fun wS hS => (r_move (v := .bool _) rfl)) ?_
    rcases Bool.eq_false_or_eq_true (y13) with hb55 | hb55
    · replace h := iT hb55 h
      refine dG (i := 4) (listed' := #[I_,I_,I_,I_,I_,O_,O_,O_,O_,O_,O_,O_,O_,O_,O_,O_,O_,O_]) rfl 15 hP52 (congrArg Value.bool (nnt hb55)) hK54 (fun wS hS => (r_move (v := .int _ _) rfl)) ?_
      refine dt_gtrG (i := 5) (listed' := #[I_,I_,I_,I_,I_,I_,O_,O_,O_,O_,O_,O_,O_,O_,O_,O_,O_,O_]) (by rfl) (by kernel_rfl) (by rfl) hP52.u 15 (by rfl) (congrArg Value.bool (nnt hb55)) hK54 rfl rfl (fun h17 => ?_) (fun h17 => ?_)
      · replace h := iT h17 h
        refine dG (i := 6) (listed' := #[I_,I_,I_,I_,I_,I_,I_,O_,O_,O_,O_,O_,O_,O_,O_,O_,O_,O_]) rfl 15 hP52 (congrArg Value.bool (nnt hb55)) hK54 (fun wS hS => (r_move (v := .bool true) rfl)) ?_
        refine dG (i := 7) (listed' := #[I_,I_,I_,I_,I_,I_,I_,I_,O_,O_,O_,O_,O_,O_,O_,O_,O_,O_]) rfl 18 hP52 rfl hK54 (fun wS hS => (r_fieldAddr Try.underlying59 rfl I3 (by decide) rfl)) ?_
        refine dG (i := 8) (listed' := #[I_,I_,I_,I_,I_,I_,I_,I_,I_,O_,O_,O_,O_,O_,O_,O_,O_,O_]) rfl 18 hP52 rfl hK54 (fun wS hS => (r_load1 (v := .int _ _) Try.underlying3 rfl rfl (cellB (hS.own.get (i := 0) rfl) rfl rfl))) ?_
        refine dG (i := 9) (listed' := #[I_,I_,I_,I_,I_,I_,I_,I_,I_,I_,O_,O_,O_,O_,O_,O_,O_,O_]) rfl 18 hP52 rfl hK54 (fun wS hS => (r_move (v := .slice _ _ _) rfl)) ?_
        refine dG (i := 10) (listed' := #[I_,I_,I_,I_,I_,I_,I_,I_,I_,I_,I_,O_,O_,O_,O_,O_,O_,O_]) rfl 18 hP52 rfl hK54 (fun wS hS => (r_move (v := .int _ _) rfl)) ?_
        refine dG (i := 11) (listed' := #[I_,I_,I_,I_,I_,I_,I_,I_,I_,I_,I_,I_,O_,O_,O_,O_,O_,O_]) rfl 18 hP52 rfl hK54 (fun wS hS => (r_subI (a := xl1_t7) (b := 1) rfl rfl)) ?_
        obtain ⟨y24, hy24, h⟩ := bindE h
        obtain ⟨ad24, had24, hk24⟩ := ix_known (e := e_ticket_Ticket) (Rd.cs hR0p) e_ticket_Ticket_len (by decide) hy24
        have hx24 : Value.slice aP0 mP0 cP0 = .slice (some ad24) mP0 cP0 := by rw [had24]
        refine dG (i := 12) (listed' := #[I_,I_,I_,I_,I_,I_,I_,I_,I_,I_,I_,I_,I_,O_,O_,O_,O_,O_]) rfl 18 hP52 rfl hK54 (fun wS hS => (ra_idx (xs := x0) (i := (w64 (xl1_t7 - 1))) Try.underlying25 I59 (by exact hx24) (by rfl) hm0p hy24)) ?_
        refine dG (i := 13) (listed' := #[I_,I_,I_,I_,I_,I_,I_,I_,I_,I_,I_,I_,I_,I_,O_,O_,O_,O_]) rfl 18 hP52 rfl hK54 (fun wS hS => (r_fieldAddr Try.underlying59 rfl I3 (by decide) rfl)) ?_
        refine dG (i := 14) (listed' := #[I_,I_,I_,I_,I_,I_,I_,I_,I_,I_,I_,I_,I_,I_,I_,O_,O_,O_]) rfl 18 hP52 rfl hK54 (fun wS hS => (r_load1 (v := .int _ _) Try.underlying3 rfl rfl (cellP (hk24 _ (hR0p.kept hS)) 0 rfl))) ?_
        refine dt_leqG (i := 15) (listed' := #[I_,I_,I_,I_,I_,I_,I_,I_,I_,I_,I_,I_,I_,I_,I_,I_,O_,O_]) (by rfl) (by kernel_rfl) (by rfl) hP52.u 18 (by rfl) rfl hK54 rfl rfl (fun h27 => ?_) (fun h27 => ?_)
        · replace h := iT h27 h
          refine dG (i := 16) (listed' := #[I_,I_,I_,I_,I_,I_,I_,I_,I_,I_,I_,I_,I_,I_,I_,I_,I_,O_]) rfl 15 hP52 (congrArg Value.bool (nnt hb55)) hK54 (fun wS hS => (r_pickT (v := .bool true) rfl rfl)) ?_
          refine dT (i := 17) (listed' := #[I_,I_,I_,I_,I_,I_,I_,I_,I_,I_,I_,I_,I_,I_,I_,I_,I_,I_]) rfl hP52 hK54 (fun wS hS => (r_pickF (v := .bool true) (by exact (congrArg Value.bool (nnt hb55))) rfl)) ?_
          refine d_done (by kernel_rfl) ?_
          refine c_next ?_
          refine c_condT rfl ?_
          refine c_seq ?_
          refine c_reg ?_
          refine sv (r_assign (v := .bool false) rfl) ?_
          refine s_nil ?_
          refine c_next ?_
          refine c_ret ?_
          refine r_block ?_
          refine r_then ?_
          refine r_then ?_
          refine r_block ?_
          refine r_then ?_
          replace h := crossE h hyl25
          refine e_1 (v := .bool false) Try.results39 rfl ?_
          obtain ⟨hO56, e56⟩ := hO53.drop1
          rw [← Option.some.inj h]
          exact ⟨rfl, hO56, (e25.trans (e26.trans (e40.trans (e43.trans (e51.trans (e53.trans e56))))))⟩
        replace h := iF (Int.not_le.2 h27) h
        refine dG (i := 16) (listed' := #[I_,I_,I_,I_,I_,I_,I_,I_,I_,I_,I_,I_,I_,I_,I_,I_,I_,O_]) rfl 15 hP52 (congrArg Value.bool (nnt hb55)) hK54 (fun wS hS => (r_pickT (v := .bool false) rfl rfl)) ?_
        refine dT (i := 17) (listed' := #[I_,I_,I_,I_,I_,I_,I_,I_,I_,I_,I_,I_,I_,I_,I_,I_,I_,I_]) rfl hP52 hK54 (fun wS hS => (r_pickF (v := .bool false) (by exact (congrArg Value.bool (nnt hb55))) rfl)) ?_
        refine d_done (by kernel_rfl) ?_
        refine c_next ?_
        refine c_condF rfl ?_
        refine c_skip ?_
        refine x_norm ?_
        refine c_next ?_
        refine c_reg ?_
        refine sv (r_addI (a := xl1_t7) (b := 1) rfl rfl) ?_
        refine sv (r_move (v := .int _ _) rfl) ?_
        refine s_nil ?_
        refine l_end (m' := kl25) (Nat.lt_succ_self _) ?_
        rw [← Option.some.inj h] at hyl25
        obtain ⟨hO57, e57⟩ := hO53.drop1
        exact ⟨(w64 (xl1_t7 + 1)), hyl25, rfl, rfl, rfl, rfl, hO57, (e25.trans (e26.trans (e40.trans (e43.trans (e51.trans (e53.trans e57))))))⟩
      replace h := iF (Int.not_lt.2 h17) h
      refine dG (i := 6) (listed' := #[I_,I_,I_,I_,I_,I_,I_,O_,O_,O_,O_,O_,O_,O_,O_,O_,O_,O_]) rfl 15 hP52 (congrArg Value.bool (nnt hb55)) hK54 (fun wS hS => (r_move (v := .bool false) rfl)) ?_
      refine dS (i := 7) (listed' := #[I_,I_,I_,I_,I_,I_,I_,I_,O_,O_,O_,O_,O_,O_,O_,O_,O_,O_]) rfl 18 hP52 rfl hK54 ?_
      refine dS (i := 8) (listed' := #[I_,I_,I_,I_,I_,I_,I_,I_,I_,O_,O_,O_,O_,O_,O_,O_,O_,O_]) rfl 18 hP52 rfl hK54 ?_
      refine dS (i := 9) (listed' := #[I_,I_,I_,I_,I_,I_,I_,I_,I_,I_,O_,O_,O_,O_,O_,O_,O_,O_]) rfl 18 hP52 rfl hK54 ?_
      refine dS (i := 10) (listed' := #[I_,I_,I_,I_,I_,I_,I_,I_,I_,I_,I_,O_,O_,O_,O_,O_,O_,O_]) rfl 18 hP52 rfl hK54 ?_
      refine dS (i := 11) (listed' := #[I_,I_,I_,I_,I_,I_,I_,I_,I_,I_,I_,I_,O_,O_,O_,O_,O_,O_]) rfl 18 hP52 rfl hK54 ?_
      refine dS (i := 12) (listed' := #[I_,I_,I_,I_,I_,I_,I_,I_,I_,I_,I_,I_,I_,O_,O_,O_,O_,O_]) rfl 18 hP52 rfl hK54 ?_
      refine dS (i := 13) (listed' := #[I_,I_,I_,I_,I_,I_,I_,I_,I_,I_,I_,I_,I_,I_,O_,O_,O_,O_]) rfl 18 hP52 rfl hK54 ?_
      refine dS (i := 14) (listed' := #[I_,I_,I_,I_,I_,I_,I_,I_,I_,I_,I_,I_,I_,I_,I_,O_,O_,O_]) rfl 18 hP52 rfl hK54 ?_
      refine dS (i := 15) (listed' := #[I_,I_,I_,I_,I_,I_,I_,I_,I_,I_,I_,I_,I_,I_,I_,I_,O_,O_]) rfl 18 hP52 rfl hK54 ?_
      refine dG (i := 16) (listed' := #[I_,I_,I_,I_,I_,I_,I_,I_,I_,I_,I_,I_,I_,I_,I_,I_,I_,O_]) rfl 15 hP52 (congrArg Value.bool (nnt hb55)) hK54 (fun wS hS => (r_pickF (v := .bool false) rfl rfl)) ?_
      refine dT (i := 17) (listed' := #[I_,I_,I_,I_,I_,I_,I_,I_,I_,I_,I_,I_,I_,I_,I_,I_,I_,I_]) rfl hP52 hK54 (fun wS hS => (r_pickF (v := .bool false) (by exact (congrArg Value.bool (nnt hb55))) rfl)) ?_
      refine d_done (by kernel_rfl) ?_
      refine c_next ?_
      refine c_condF rfl ?_
      refine c_skip ?_
      refine x_norm ?_
      refine c_next ?_
      refine c_reg ?_
      refine sv (r_addI (a := xl1_t7) (b := 1) rfl rfl) ?_
      refine sv (r_move (v := .int _ _) rfl) ?_
      refine s_nil ?_
      refine l_end (m' := kl25) (Nat.lt_succ_self _) ?_
      rw [← Option.some.inj h] at hyl25
      obtain ⟨hO58, e58⟩ := hO53.drop1
      exact ⟨(w64 (xl1_t7 + 1)), hyl25, rfl, rfl, rfl, rfl, hO58, (e25.trans (e26.trans (e40.trans (e43.trans (e51.trans (e53.trans e58))))))⟩
    replace h := iF (nt hb55) h
    refine dS (i := 4) (listed' := #[I_,I_,I_,I_,I_,O_,O_,O_,O_,O_,O_,O_,O_,O_,O_,O_,O_,O_]) rfl 15 hP52 (congrArg Value.bool (nnf hb55)) hK54 ?_
    refine dS (i := 5) (listed' := #[I_,I_,I_,I_,I_,I_,O_,O_,O_,O_,O_,O_,O_,O_,O_,O_,O_,O_]) rfl 15 hP52 (congrArg Value.bool (nnf hb55)) hK54 ?_
    refine dS (i := 6) (listed' := #[I_,I_,I_,I_,I_,I_,I_,O_,O_,O_,O_,O_,O_,O_,O_,O_,O_,O_]) rfl 15 hP52 (congrArg Value.bool (nnf hb55)) hK54 ?_
    refine dU (i := 7) (listed' := #[I_,I_,I_,I_,I_,I_,I_,I_,O_,O_,O_,O_,O_,O_,O_,O_,O_,O_]) rfl 18 hP52 hK54 ?_
    refine dU (i := 8) (listed' := #[I_,I_,I_,I_,I_,I_,I_,I_,I_,O_,O_,O_,O_,O_,O_,O_,O_,O_]) rfl 18 hP52 hK54 ?_
    refine dU (i := 9) (listed' := #[I_,I_,I_,I_,I_,I_,I_,I_,I_,I_,O_,O_,O_,O_,O_,O_,O_,O_]) rfl 18 hP52 hK54 ?_
    refine dU (i := 10) (listed' := #[I_,I_,I_,I_,I_,I_,I_,I_,I_,I_,I_,O_,O_,O_,O_,O_,O_,O_]) rfl 18 hP52 hK54 ?_
    refine dU (i := 11) (listed' := #[I_,I_,I_,I_,I_,I_,I_,I_,I_,I_,I_,I_,O_,O_,O_,O_,O_,O_]) rfl 18 hP52 hK54 ?_
    refine dU (i := 12) (listed' := #[I_,I_,I_,I_,I_,I_,I_,I_,I_,I_,I_,I_,I_,O_,O_,O_,O_,O_]) rfl 18 hP52 hK54 ?_
    refine dU (i := 13) (listed' := #[I_,I_,I_,I_,I_,I_,I_,I_,I_,I_,I_,I_,I_,I_,O_,O_,O_,O_]) rfl 18 hP52 hK54 ?_
    refine dU (i := 14) (listed' := #[I_,I_,I_,I_,I_,I_,I_,I_,I_,I_,I_,I_,I_,I_,I_,O_,O_,O_]) rfl 18 hP52 hK54 ?_
    refine dU (i := 15) (listed' := #[I_,I_,I_,I_,I_,I_,I_,I_,I_,I_,I_,I_,I_,I_,I_,I_,O_,O_]) rfl 18 hP52 hK54 ?_
    refine dS (i := 16) (listed' := #[I_,I_,I_,I_,I_,I_,I_,I_,I_,I_,I_,I_,I_,I_,I_,I_,I_,O_]) rfl 15 hP52 (congrArg Value.bool (nnf hb55)) hK54 ?_
    refine dT (i := 17) (listed' := #[I_,I_,I_,I_,I_,I_,I_,I_,I_,I_,I_,I_,I_,I_,I_,I_,I_,I_]) rfl hP52 hK54 (fun wS hS => (r_pickT (v := .bool true) (by exact (congrArg Value.bool (nnf hb55))) rfl)) ?_
    refine d_done (by kernel_rfl) ?_
    refine c_next ?_
    refine c_condT rfl ?_
    refine c_seq ?_
    refine c_reg ?_
    refine sv (r_assign (v := .bool false) rfl) ?_
    refine s_nil ?_
    refine c_next ?_
    refine c_ret ?_
    refine r_block ?_
    refine r_then ?_
    refine r_then ?_
    refine r_block ?_
    refine r_then ?_
    replace h := crossE h hyl25
    refine e_1 (v := .bool false) Try.results39 rfl ?_
    obtain ⟨hO59, e59⟩ := hO53.drop1
    rw [← Option.some.inj h]
    exact ⟨rfl, hO59, (e25.trans (e26.trans (e40.trans (e43.trans (e51.trans (e53.trans e59))))))⟩
  replace h := iF (nt hb28) h
  refine c_condF (congrArg Value.bool hb28) ?_
  refine c_exit ?_
  refine x_then ?_
  refine x_then ?_
  refine x_same ?_
  replace h := crossE h hyl25
  refine c_next ?_
  refine c_seq ?_
  refine c_reg ?_
  refine sv (r_move (v := .slice _ _ _) rfl) ?_
  refine sv (r_lenL (xs := x0) Try.underlying25 rfl hm0p) ?_
  refine c_leq rfl rfl (fun h33 => ?_) (fun h33 => ?_)
  · replace h := iT h33 h
    refine sv (r_assign (v := .bool true) rfl) ?_
    refine s_nil ?_
    refine c_next ?_
    refine c_ret ?_
    refine e_1 (v := .bool true) Try.results39 rfl ?_
    rw [← Option.some.inj h]
    exact ⟨rfl, hO26, (e25.trans e26)⟩
  replace h := iF (Int.not_le.2 h33) h
  refine sv (r_assign (v := .bool false) rfl) ?_
  refine s_nil ?_
  refine c_next ?_
  refine c_ret ?_
  refine e_1 (v := .bool false) Try.results39 rfl ?_
  rw [← Option.some.inj h]
  exact ⟨rfl, hO26, (e25.trans e26)⟩
theorem c_claim_Right (x0 : T_claim_State) (aP0 : Option Addr) (mP0 cP0 : Nat) (aP1 : Option Addr) (mP1 cP1 : Nat)  (r : Bool) (h : F_claim_Right x0 = some r) (w : World) (L : Hp) (hm0p : x0.Roster.length = mP0) (hc0p : mP0 ≤ cP0) (hR0p : Rd w L aP0 (fl e_roster_Device x0.Roster)) (hm1p : x0.Tickets.length = mP1) (hc1p : mP1 ≤ cP1) (hR1p : Rd w L aP1 (fl e_ticket_Ticket x0.Tickets)) (hO : Own w L) :
    Calls Try.prog 16 #[(.agg #[(.int .i64 x0.Epoch), (.int .i64 x0.Owner), (.int .i64 x0.Next), (.slice aP0 mP0 cP0), (.slice aP1 mP1 cP1)])] w fun en w' => en = .returned (.bool r) ∧ Own w' L ∧ Ext w L w' L := by
  unfold F_claim_Right at h
  refine enter (n := 77) [(.agg #[(.int .i64 x0.Epoch), (.int .i64 x0.Owner), (.int .i64 x0.Next), (.slice aP0 mP0 cP0), (.slice aP1 mP1 cP1)])] Try.func16 rfl rfl (Nat.le_of_ble_eq_true rfl) ?_
  refine c_seq ?_
  refine c_reg ?_
  refine s_box (v := (.agg #[(.int .i64 x0.Epoch), (.int .i64 x0.Owner), (.int .i64 x0.Next), (.slice aP0 mP0 cP0), (.slice aP1 mP1 cP1)])) rfl hO ?_
  intro b1 w2 hz1 hl1 hO2 e2
  have hO3 : Own w2 ((b1, .cells #[(.int .i64 x0.Epoch), (.int .i64 x0.Owner), (.int .i64 x0.Next), (.slice aP0 mP0 cP0), (.slice aP1 mP1 cP1)] 27 (0, 0)) :: L) := hO2
  refine sv (r_assign (v := .bool false) rfl) ?_
  refine s_nil ?_
  refine c_next ?_
  refine c_seq ?_
  have hR0p := (hR0p.ext e2)
  have hR1p := (hR1p.ext e2)
  obtain ⟨oc15, G15, hG15, h, hr15⟩ := bindG h
  refine c_cutL hO3 (fun Lc f0 g w' => ∃ (xc1_t35 : Bool), (G15 xc1_t35 = some r) ∧ g 1 = (.pointer (some ⟨b1, 0, none⟩)) ∧ g 35 = (.bool xc1_t35) ∧ Own w' ((b1, .cells #[(.int .i64 x0.Epoch), (.int .i64 x0.Owner), (.int .i64 x0.Next), (.slice aP0 mP0 cP0), (.slice aP1 mP1 cP1)] 27 (0, 0)) :: L) ∧ Ext w2 Lc w' ((b1, .cells #[(.int .i64 x0.Epoch), (.int .i64 x0.Owner), (.int .i64 x0.Next), (.slice aP0 mP0 cP0), (.slice aP1 mP1 cP1)] 27 (0, 0)) :: L)) ?_ ?_
  · skip
    refine c_reg ?_
    refine sv (r_fieldAddr Try.underlying27 rfl I3 (by decide) rfl) ?_
    refine s_load1 (v := .int _ _) Try.underlying3 rfl rfl (cellB (hO3.get (i := 0) rfl) rfl rfl) ?_
    refine c_lss rfl rfl (fun h8 => ?_) (fun h8 => ?_)
    · replace h := iT h8 h
      refine sv (r_move (v := .bool true) rfl) ?_
      refine g_skip 9 (by rfl) rfl (by rfl) ?_
      refine g_skip 9 (by rfl) rfl (by rfl) ?_
      refine g_skip 9 (by rfl) rfl (by rfl) ?_
      refine sv (r_pickT (v := .bool true) rfl rfl) ?_
      refine sv (r_move (v := .bool true) rfl) ?_
      refine g_skip 14 (by rfl) rfl (by rfl) ?_
      refine g_skip 14 (by rfl) rfl (by rfl) ?_
      refine g_skip 14 (by rfl) rfl (by rfl) ?_
      refine sv (r_pickT (v := .bool true) rfl rfl) ?_
      refine sv (r_move (v := .bool true) rfl) ?_
      refine g_skip 19 (by rfl) rfl (by rfl) ?_
      refine g_skip 19 (by rfl) rfl (by rfl) ?_
      refine g_skip 19 (by rfl) rfl (by rfl) ?_
      refine sv (r_pickT (v := .bool true) rfl rfl) ?_
      refine sv (r_move (v := .bool true) rfl) ?_
      refine g_skip 24 (by rfl) rfl (by rfl) ?_
      refine g_skip 24 (by rfl) rfl (by rfl) ?_
      refine g_skip 24 (by rfl) rfl (by rfl) ?_
      refine g_skip 24 (by rfl) rfl (by rfl) ?_
      refine sv (r_pickT (v := .bool true) rfl rfl) ?_
      refine sv (r_move (v := .bool true) rfl) ?_
      refine g_skip 30 (by rfl) rfl (by rfl) ?_
      refine g_skip 30 (by rfl) rfl (by rfl) ?_
      refine g_skip 30 (by rfl) rfl (by rfl) ?_
      refine g_skip 30 (by rfl) rfl (by rfl) ?_
      refine sv (r_pickT (v := .bool true) rfl rfl) ?_
      refine s_nil ?_
      refine c_next ?_
      rw [← Option.some.inj h] at hr15
      exact ⟨_, rfl, true, hr15, rfl, rfl, hO3, (Ext.refl _ _)⟩
    replace h := iF (Int.not_lt.2 h8) h
    refine sv (r_move (v := .bool false) rfl) ?_
    refine g_do 9 (by rfl) rfl ?_
    refine sv (r_fieldAddr Try.underlying27 rfl I3 (by decide) rfl) ?_
    refine g_do 9 (by rfl) rfl ?_
    refine s_load1 (v := .int _ _) Try.underlying3 rfl rfl (cellB (hO3.get (i := 0) rfl) rfl rfl) ?_
    refine g_do 9 (by rfl) rfl ?_
    refine c_gtr rfl rfl (fun h12 => ?_) (fun h12 => ?_)
    · replace h := iT h12 h
      refine sv (r_pickF (v := .bool true) rfl rfl) ?_
      refine sv (r_move (v := .bool true) rfl) ?_
      refine g_skip 14 (by rfl) rfl (by rfl) ?_
      refine g_skip 14 (by rfl) rfl (by rfl) ?_
      refine g_skip 14 (by rfl) rfl (by rfl) ?_
      refine sv (r_pickT (v := .bool true) rfl rfl) ?_
      refine sv (r_move (v := .bool true) rfl) ?_
      refine g_skip 19 (by rfl) rfl (by rfl) ?_
      refine g_skip 19 (by rfl) rfl (by rfl) ?_
      refine g_skip 19 (by rfl) rfl (by rfl) ?_
      refine sv (r_pickT (v := .bool true) rfl rfl) ?_
      refine sv (r_move (v := .bool true) rfl) ?_
      refine g_skip 24 (by rfl) rfl (by rfl) ?_
      refine g_skip 24 (by rfl) rfl (by rfl) ?_
      refine g_skip 24 (by rfl) rfl (by rfl) ?_
      refine g_skip 24 (by rfl) rfl (by rfl) ?_
      refine sv (r_pickT (v := .bool true) rfl rfl) ?_
      refine sv (r_move (v := .bool true) rfl) ?_
      refine g_skip 30 (by rfl) rfl (by rfl) ?_
      refine g_skip 30 (by rfl) rfl (by rfl) ?_
      refine g_skip 30 (by rfl) rfl (by rfl) ?_
      refine g_skip 30 (by rfl) rfl (by rfl) ?_
      refine sv (r_pickT (v := .bool true) rfl rfl) ?_
      refine s_nil ?_
      refine c_next ?_
      rw [← Option.some.inj h] at hr15
      exact ⟨_, rfl, true, hr15, rfl, rfl, hO3, (Ext.refl _ _)⟩
    replace h := iF (Int.not_lt.2 h12) h
    refine sv (r_pickF (v := .bool false) rfl rfl) ?_
    refine sv (r_move (v := .bool false) rfl) ?_
    refine g_do 14 (by rfl) rfl ?_
    refine sv (r_fieldAddr Try.underlying27 rfl I3 (by decide) rfl) ?_
    refine g_do 14 (by rfl) rfl ?_
    refine s_load1 (v := .int _ _) Try.underlying3 rfl rfl (cellB (hO3.get (i := 0) rfl) rfl rfl) ?_
    refine g_do 14 (by rfl) rfl ?_
    refine c_lss rfl rfl (fun h17 => ?_) (fun h17 => ?_)
    · replace h := iT h17 h
      refine sv (r_pickF (v := .bool true) rfl rfl) ?_
      refine sv (r_move (v := .bool true) rfl) ?_
      refine g_skip 19 (by rfl) rfl (by rfl) ?_
      refine g_skip 19 (by rfl) rfl (by rfl) ?_
      refine g_skip 19 (by rfl) rfl (by rfl) ?_
      refine sv (r_pickT (v := .bool true) rfl rfl) ?_
      refine sv (r_move (v := .bool true) rfl) ?_
      refine g_skip 24 (by rfl) rfl (by rfl) ?_
      refine g_skip 24 (by rfl) rfl (by rfl) ?_
      refine g_skip 24 (by rfl) rfl (by rfl) ?_
      refine g_skip 24 (by rfl) rfl (by rfl) ?_
      refine sv (r_pickT (v := .bool true) rfl rfl) ?_
      refine sv (r_move (v := .bool true) rfl) ?_
      refine g_skip 30 (by rfl) rfl (by rfl) ?_
      refine g_skip 30 (by rfl) rfl (by rfl) ?_
      refine g_skip 30 (by rfl) rfl (by rfl) ?_
      refine g_skip 30 (by rfl) rfl (by rfl) ?_
      refine sv (r_pickT (v := .bool true) rfl rfl) ?_
      refine s_nil ?_
      refine c_next ?_
      rw [← Option.some.inj h] at hr15
      exact ⟨_, rfl, true, hr15, rfl, rfl, hO3, (Ext.refl _ _)⟩
    replace h := iF (Int.not_lt.2 h17) h
    refine sv (r_pickF (v := .bool false) rfl rfl) ?_
    refine sv (r_move (v := .bool false) rfl) ?_
    refine g_do 19 (by rfl) rfl ?_
    refine sv (r_fieldAddr Try.underlying27 rfl I3 (by decide) rfl) ?_
    refine g_do 19 (by rfl) rfl ?_
    refine s_load1 (v := .int _ _) Try.underlying3 rfl rfl (cellB (hO3.get (i := 0) rfl) rfl rfl) ?_
    refine g_do 19 (by rfl) rfl ?_
    refine c_gtr rfl rfl (fun h22 => ?_) (fun h22 => ?_)
    · replace h := iT h22 h
      refine sv (r_pickF (v := .bool true) rfl rfl) ?_
      refine sv (r_move (v := .bool true) rfl) ?_
      refine g_skip 24 (by rfl) rfl (by rfl) ?_
      refine g_skip 24 (by rfl) rfl (by rfl) ?_
      refine g_skip 24 (by rfl) rfl (by rfl) ?_
      refine g_skip 24 (by rfl) rfl (by rfl) ?_
      refine sv (r_pickT (v := .bool true) rfl rfl) ?_
      refine sv (r_move (v := .bool true) rfl) ?_
      refine g_skip 30 (by rfl) rfl (by rfl) ?_
      refine g_skip 30 (by rfl) rfl (by rfl) ?_
      refine g_skip 30 (by rfl) rfl (by rfl) ?_
      refine g_skip 30 (by rfl) rfl (by rfl) ?_
      refine sv (r_pickT (v := .bool true) rfl rfl) ?_
      refine s_nil ?_
      refine c_next ?_
      rw [← Option.some.inj h] at hr15
      exact ⟨_, rfl, true, hr15, rfl, rfl, hO3, (Ext.refl _ _)⟩
    replace h := iF (Int.not_lt.2 h22) h
    refine sv (r_pickF (v := .bool false) rfl rfl) ?_
    refine sv (r_move (v := .bool false) rfl) ?_
    refine g_do 24 (by rfl) rfl ?_
    refine sv (r_fieldAddr Try.underlying27 rfl I24 (by decide) rfl) ?_
    refine g_do 24 (by rfl) rfl ?_
    refine s_load1 (v := .slice _ _ _) Try.underlying24 rfl rfl (cellB (hO3.get (i := 0) rfl) rfl rfl) ?_
    refine g_do 24 (by rfl) rfl ?_
    obtain ⟨y27, hy27, h⟩ := bindE h
    refine s_call cf38 rfl (c_roster_Right x0.Roster aP0 mP0 cP0 _ hy27 _ _ hm0p hc0p hR0p hO3) ?_
    rintro er27 w16 ⟨rfl, hO16, e16⟩
    refine ⟨_, rfl, ?_⟩
    refine g_do 24 (by rfl) rfl ?_
    refine sv (r_not (b := y27) rfl) ?_
    refine sv (r_pickF (v := .bool _) rfl rfl) ?_
    refine sv (r_move (v := .bool _) rfl) ?_
    rcases Bool.eq_false_or_eq_true (y27) with hb17 | hb17
    · replace h := iT hb17 h
      refine g_do 30 (by rfl) (congrArg Value.bool (nnt hb17)) ?_
      refine sv (r_fieldAddr Try.underlying27 rfl I25 (by decide) rfl) ?_
      refine g_do 30 (by rfl) (congrArg Value.bool (nnt hb17)) ?_
      refine s_load1 (v := .slice _ _ _) Try.underlying25 rfl rfl (cellB (hO16.get (i := 0) rfl) rfl rfl) ?_
      refine g_do 30 (by rfl) (congrArg Value.bool (nnt hb17)) ?_
      obtain ⟨y33, hy33, h⟩ := bindE h
      refine s_call cf39 rfl (c_ticket_Right x0.Tickets aP1 mP1 cP1 _ hy33 _ _ hm1p hc1p (hR1p.ext e16) hO16) ?_
      rintro er33 w18 ⟨rfl, hO18, e18⟩
      refine ⟨_, rfl, ?_⟩
      refine g_do 30 (by rfl) (congrArg Value.bool (nnt hb17)) ?_
      refine sv (r_not (b := y33) rfl) ?_
      refine sv (r_pickF (v := .bool _) (by exact (congrArg Value.bool (nnt hb17))) rfl) ?_
      refine s_nil ?_
      refine c_next ?_
      rw [← Option.some.inj h] at hr15
      exact ⟨_, rfl, (!y33), hr15, rfl, rfl, hO18, (e16.trans e18)⟩
    replace h := iF (nt hb17) h
    refine g_skip 30 (by rfl) (congrArg Value.bool (nnf hb17)) (by rfl) ?_
    refine g_skip 30 (by rfl) (congrArg Value.bool (nnf hb17)) (by rfl) ?_
    refine g_skip 30 (by rfl) (congrArg Value.bool (nnf hb17)) (by rfl) ?_
    refine g_skip 30 (by rfl) (congrArg Value.bool (nnf hb17)) (by rfl) ?_
    refine sv (r_pickT (v := .bool true) (by exact (congrArg Value.bool (nnf hb17))) rfl) ?_
    refine s_nil ?_
    refine c_next ?_
    rw [← Option.some.inj h] at hr15
    exact ⟨_, rfl, true, hr15, rfl, rfl, hO16, e16⟩
  intro gg15 w15 hI15
  clear h hr15
  obtain ⟨xc1_t35, h, hsc1_1, hsc1_35, hO15, e15⟩ := hI15
  replace h := hG_ hG15 h; clear hG15
  obtain ⟨qq15, rfl⟩ := fr2 hsc1_1 hsc1_35
  clear hsc1_1 hsc1_35
  rcases Bool.eq_false_or_eq_true (xc1_t35) with hb19 | hb19
  · replace h := iT hb19 h
    refine c_condT (congrArg Value.bool hb19) ?_
    refine c_seq ?_
    refine c_reg ?_
    refine sv (r_assign (v := .bool false) rfl) ?_
    refine s_nil ?_
    refine c_next ?_
    refine c_ret ?_
    refine r_then ?_
    refine e_1 (v := .bool false) Try.results16 rfl ?_
    obtain ⟨hO20, e20⟩ := hO15.drop1
    rw [← Option.some.inj h]
    exact ⟨rfl, hO20, (e2.trans (e15.trans e20))⟩
  replace h := iF (nt hb19) h
  refine c_condF (congrArg Value.bool hb19) ?_
  refine c_skip ?_
  refine c_next ?_
  have hR0p := (hR0p.ext e15)
  have hR1p := (hR1p.ext e15)
  obtain ⟨oc25, G25, hG25, h, hr25⟩ := bindS h
  refine c_cutL hO15 (fun Lc f0 g w' => (G25 () = some r) ∧ g 1 = (.pointer (some ⟨b1, 0, none⟩)) ∧ Own w' ((b1, .cells #[(.int .i64 x0.Epoch), (.int .i64 x0.Owner), (.int .i64 x0.Next), (.slice aP0 mP0 cP0), (.slice aP1 mP1 cP1)] 27 (0, 0)) :: L) ∧ Ext w15 Lc w' ((b1, .cells #[(.int .i64 x0.Epoch), (.int .i64 x0.Owner), (.int .i64 x0.Next), (.slice aP0 mP0 cP0), (.slice aP1 mP1 cP1)] 27 (0, 0)) :: L)) ?_ ?_
  · skip
    refine c_seq ?_
    refine c_reg ?_
    refine sv (r_fieldAddr Try.underlying27 rfl I25 (by decide) rfl) ?_
    refine s_load1 (v := .slice _ _ _) Try.underlying25 rfl rfl (cellB (hO15.get (i := 0) rfl) rfl rfl) ?_
    refine sv (r_lenL (xs := x0.Tickets) Try.underlying25 rfl hm1p) ?_
    refine sv (r_assign (v := .int _ _) rfl) ?_
    refine s_nil ?_
    refine c_next ?_
    refine c_seq ?_
    refine d_startL hO15 hO15 19 (by kernel_rfl) (pk_then (pk_then pk_body)) ?_
    intro hP27 wd27 hK27 hO26 e26
    refine dT (i := 0) (listed' := #[I_,O_,O_,O_,O_,O_,O_,O_,O_,O_,O_,O_,O_,O_,O_,O_,O_,O_,O_]) rfl hP27 hK27 (fun wS hS => (r_move (v := .int _ _) rfl)) ?_
    refine dt_gtr (i := 1) (listed' := #[I_,I_,O_,O_,O_,O_,O_,O_,O_,O_,O_,O_,O_,O_,O_,O_,O_,O_,O_]) (by rfl) (by kernel_rfl) (by rfl) hP27.u rfl hK27 rfl rfl (fun h40 => ?_) (fun h40 => ?_)
    · replace h := iT h40 h
      refine dT (i := 2) (listed' := #[I_,I_,I_,O_,O_,O_,O_,O_,O_,O_,O_,O_,O_,O_,O_,O_,O_,O_,O_]) rfl hP27 hK27 (fun wS hS => (r_move (v := .bool true) rfl)) ?_
      refine dG (i := 3) (listed' := #[I_,I_,I_,I_,O_,O_,O_,O_,O_,O_,O_,O_,O_,O_,O_,O_,O_,O_,O_]) rfl 41 hP27 rfl hK27 (fun wS hS => (r_fieldAddr Try.underlying27 rfl I25 (by decide) rfl)) ?_
      refine dG (i := 4) (listed' := #[I_,I_,I_,I_,I_,O_,O_,O_,O_,O_,O_,O_,O_,O_,O_,O_,O_,O_,O_]) rfl 41 hP27 rfl hK27 (fun wS hS => (r_load1 (v := .slice _ _ _) Try.underlying25 rfl rfl (cellB (hS.own.get (i := 0) rfl) rfl rfl))) ?_
      refine dG (i := 5) (listed' := #[I_,I_,I_,I_,I_,I_,O_,O_,O_,O_,O_,O_,O_,O_,O_,O_,O_,O_,O_]) rfl 41 hP27 rfl hK27 (fun wS hS => (r_move (v := .int _ _) rfl)) ?_
      refine dG (i := 6) (listed' := #[I_,I_,I_,I_,I_,I_,I_,O_,O_,O_,O_,O_,O_,O_,O_,O_,O_,O_,O_]) rfl 41 hP27 rfl hK27 (fun wS hS => (r_subI (a := ((x0.Tickets.length : Int))) (b := 1) rfl rfl)) ?_
      obtain ⟨y46, hy46, h⟩ := bindE h
      obtain ⟨ad46, had46, hk46⟩ := ix_known (e := e_ticket_Ticket) (Rd.cs hR1p) e_ticket_Ticket_len (by decide) hy46
      have hx46 : Value.slice aP1 mP1 cP1 = .slice (some ad46) mP1 cP1 := by rw [had46]
      refine dG (i := 7) (listed' := #[I_,I_,I_,I_,I_,I_,I_,I_,O_,O_,O_,O_,O_,O_,O_,O_,O_,O_,O_]) rfl 41 hP27 rfl hK27 (fun wS hS => (ra_idx (xs := x0.Tickets) (i := (w64 (((x0.Tickets.length : Int)) - 1))) Try.underlying25 I59 (by exact hx46) (by rfl) hm1p hy46)) ?_
      refine dG (i := 8) (listed' := #[I_,I_,I_,I_,I_,I_,I_,I_,I_,O_,O_,O_,O_,O_,O_,O_,O_,O_,O_]) rfl 41 hP27 rfl hK27 (fun wS hS => (r_fieldAddr Try.underlying59 rfl I3 (by decide) rfl)) ?_
      refine dG (i := 9) (listed' := #[I_,I_,I_,I_,I_,I_,I_,I_,I_,I_,O_,O_,O_,O_,O_,O_,O_,O_,O_]) rfl 41 hP27 rfl hK27 (fun wS hS => (r_load1 (v := .int _ _) Try.underlying3 rfl rfl (cellP (hk46 _ (hR1p.kept hS)) 0 rfl))) ?_
      refine dG (i := 10) (listed' := #[I_,I_,I_,I_,I_,I_,I_,I_,I_,I_,I_,O_,O_,O_,O_,O_,O_,O_,O_]) rfl 41 hP27 rfl hK27 (fun wS hS => (r_fieldAddr Try.underlying27 rfl I3 (by decide) rfl)) ?_
      refine dG (i := 11) (listed' := #[I_,I_,I_,I_,I_,I_,I_,I_,I_,I_,I_,I_,O_,O_,O_,O_,O_,O_,O_]) rfl 41 hP27 rfl hK27 (fun wS hS => (r_load1 (v := .int _ _) Try.underlying3 rfl rfl (cellB (hS.own.get (i := 0) rfl) rfl rfl))) ?_
      refine dt_geqG (i := 12) (listed' := #[I_,I_,I_,I_,I_,I_,I_,I_,I_,I_,I_,I_,I_,O_,O_,O_,O_,O_,O_]) (by rfl) (by kernel_rfl) (by rfl) hP27.u 41 (by rfl) rfl hK27 rfl rfl (fun h51 => ?_) (fun h51 => ?_)
      · replace h := iT h51 h
        refine dG (i := 13) (listed' := #[I_,I_,I_,I_,I_,I_,I_,I_,I_,I_,I_,I_,I_,I_,O_,O_,O_,O_,O_]) rfl 41 hP27 rfl hK27 (fun wS hS => (r_move (v := .bool true) rfl)) ?_
        refine dS (i := 14) (listed' := #[I_,I_,I_,I_,I_,I_,I_,I_,I_,I_,I_,I_,I_,I_,I_,O_,O_,O_,O_]) rfl 52 hP27 rfl hK27 ?_
        refine dS (i := 15) (listed' := #[I_,I_,I_,I_,I_,I_,I_,I_,I_,I_,I_,I_,I_,I_,I_,I_,O_,O_,O_]) rfl 52 hP27 rfl hK27 ?_
        refine dS (i := 16) (listed' := #[I_,I_,I_,I_,I_,I_,I_,I_,I_,I_,I_,I_,I_,I_,I_,I_,I_,O_,O_]) rfl 52 hP27 rfl hK27 ?_
        refine dG (i := 17) (listed' := #[I_,I_,I_,I_,I_,I_,I_,I_,I_,I_,I_,I_,I_,I_,I_,I_,I_,I_,O_]) rfl 41 hP27 rfl hK27 (fun wS hS => (r_pickT (v := .bool true) rfl rfl)) ?_
        refine dT (i := 18) (listed' := #[I_,I_,I_,I_,I_,I_,I_,I_,I_,I_,I_,I_,I_,I_,I_,I_,I_,I_,I_]) rfl hP27 hK27 (fun wS hS => (r_pickT (v := .bool true) rfl rfl)) ?_
        refine d_done (by kernel_rfl) ?_
        refine c_next ?_
        refine c_condT rfl ?_
        refine c_seq ?_
        refine c_reg ?_
        refine sv (r_assign (v := .bool false) rfl) ?_
        refine s_nil ?_
        refine c_next ?_
        refine c_ret ?_
        refine r_then ?_
        replace h := crossC h hr25
        refine e_1 (v := .bool false) Try.results16 rfl ?_
        obtain ⟨hO28, e28⟩ := hO26.drop1
        rw [← Option.some.inj h]
        exact ⟨rfl, hO28, (e2.trans (e15.trans (e26.trans e28)))⟩
      replace h := iF (Int.not_le.2 h51) h
      refine dG (i := 13) (listed' := #[I_,I_,I_,I_,I_,I_,I_,I_,I_,I_,I_,I_,I_,I_,O_,O_,O_,O_,O_]) rfl 41 hP27 rfl hK27 (fun wS hS => (r_move (v := .bool false) rfl)) ?_
      refine dG (i := 14) (listed' := #[I_,I_,I_,I_,I_,I_,I_,I_,I_,I_,I_,I_,I_,I_,I_,O_,O_,O_,O_]) rfl 52 hP27 rfl hK27 (fun wS hS => (r_fieldAddr Try.underlying27 rfl I3 (by decide) rfl)) ?_
      refine dG (i := 15) (listed' := #[I_,I_,I_,I_,I_,I_,I_,I_,I_,I_,I_,I_,I_,I_,I_,I_,O_,O_,O_]) rfl 52 hP27 rfl hK27 (fun wS hS => (r_load1 (v := .int _ _) Try.underlying3 rfl rfl (cellB (hS.own.get (i := 0) rfl) rfl rfl))) ?_
      refine dt_eqlG (i := 16) (listed' := #[I_,I_,I_,I_,I_,I_,I_,I_,I_,I_,I_,I_,I_,I_,I_,I_,I_,O_,O_]) (by rfl) (by kernel_rfl) (by rfl) hP27.u 52 (by rfl) rfl hK27 rfl rfl (fun h55 => ?_) (fun h55 => ?_)
      · replace h := iT h55 h
        refine dG (i := 17) (listed' := #[I_,I_,I_,I_,I_,I_,I_,I_,I_,I_,I_,I_,I_,I_,I_,I_,I_,I_,O_]) rfl 41 hP27 rfl hK27 (fun wS hS => (r_pickF (v := .bool true) rfl rfl)) ?_
        refine dT (i := 18) (listed' := #[I_,I_,I_,I_,I_,I_,I_,I_,I_,I_,I_,I_,I_,I_,I_,I_,I_,I_,I_]) rfl hP27 hK27 (fun wS hS => (r_pickT (v := .bool true) rfl rfl)) ?_
        refine d_done (by kernel_rfl) ?_
        refine c_next ?_
        refine c_condT rfl ?_
        refine c_seq ?_
        refine c_reg ?_
        refine sv (r_assign (v := .bool false) rfl) ?_
        refine s_nil ?_
        refine c_next ?_
        refine c_ret ?_
        refine r_then ?_
        replace h := crossC h hr25
        refine e_1 (v := .bool false) Try.results16 rfl ?_
        obtain ⟨hO29, e29⟩ := hO26.drop1
        rw [← Option.some.inj h]
        exact ⟨rfl, hO29, (e2.trans (e15.trans (e26.trans e29)))⟩
      replace h := iF h55 h
      refine dG (i := 17) (listed' := #[I_,I_,I_,I_,I_,I_,I_,I_,I_,I_,I_,I_,I_,I_,I_,I_,I_,I_,O_]) rfl 41 hP27 rfl hK27 (fun wS hS => (r_pickF (v := .bool false) rfl rfl)) ?_
      refine dT (i := 18) (listed' := #[I_,I_,I_,I_,I_,I_,I_,I_,I_,I_,I_,I_,I_,I_,I_,I_,I_,I_,I_]) rfl hP27 hK27 (fun wS hS => (r_pickT (v := .bool false) rfl rfl)) ?_
      refine d_done (by kernel_rfl) ?_
      refine c_next ?_
      refine c_condF rfl ?_
      refine c_skip ?_
      refine c_next ?_
      rw [← Option.some.inj h] at hr25
      exact ⟨_, rfl, hr25, rfl, hO26, e26⟩
    replace h := iF (Int.not_lt.2 h40) h
    refine dT (i := 2) (listed' := #[I_,I_,I_,O_,O_,O_,O_,O_,O_,O_,O_,O_,O_,O_,O_,O_,O_,O_,O_]) rfl hP27 hK27 (fun wS hS => (r_move (v := .bool false) rfl)) ?_
    refine dS (i := 3) (listed' := #[I_,I_,I_,I_,O_,O_,O_,O_,O_,O_,O_,O_,O_,O_,O_,O_,O_,O_,O_]) rfl 41 hP27 rfl hK27 ?_
    refine dS (i := 4) (listed' := #[I_,I_,I_,I_,I_,O_,O_,O_,O_,O_,O_,O_,O_,O_,O_,O_,O_,O_,O_]) rfl 41 hP27 rfl hK27 ?_
    refine dS (i := 5) (listed' := #[I_,I_,I_,I_,I_,I_,O_,O_,O_,O_,O_,O_,O_,O_,O_,O_,O_,O_,O_]) rfl 41 hP27 rfl hK27 ?_
    refine dS (i := 6) (listed' := #[I_,I_,I_,I_,I_,I_,I_,O_,O_,O_,O_,O_,O_,O_,O_,O_,O_,O_,O_]) rfl 41 hP27 rfl hK27 ?_
    refine dS (i := 7) (listed' := #[I_,I_,I_,I_,I_,I_,I_,I_,O_,O_,O_,O_,O_,O_,O_,O_,O_,O_,O_]) rfl 41 hP27 rfl hK27 ?_
    refine dS (i := 8) (listed' := #[I_,I_,I_,I_,I_,I_,I_,I_,I_,O_,O_,O_,O_,O_,O_,O_,O_,O_,O_]) rfl 41 hP27 rfl hK27 ?_
    refine dS (i := 9) (listed' := #[I_,I_,I_,I_,I_,I_,I_,I_,I_,I_,O_,O_,O_,O_,O_,O_,O_,O_,O_]) rfl 41 hP27 rfl hK27 ?_
    refine dS (i := 10) (listed' := #[I_,I_,I_,I_,I_,I_,I_,I_,I_,I_,I_,O_,O_,O_,O_,O_,O_,O_,O_]) rfl 41 hP27 rfl hK27 ?_
    refine dS (i := 11) (listed' := #[I_,I_,I_,I_,I_,I_,I_,I_,I_,I_,I_,I_,O_,O_,O_,O_,O_,O_,O_]) rfl 41 hP27 rfl hK27 ?_
    refine dS (i := 12) (listed' := #[I_,I_,I_,I_,I_,I_,I_,I_,I_,I_,I_,I_,I_,O_,O_,O_,O_,O_,O_]) rfl 41 hP27 rfl hK27 ?_
    refine dS (i := 13) (listed' := #[I_,I_,I_,I_,I_,I_,I_,I_,I_,I_,I_,I_,I_,I_,O_,O_,O_,O_,O_]) rfl 41 hP27 rfl hK27 ?_
    refine dU (i := 14) (listed' := #[I_,I_,I_,I_,I_,I_,I_,I_,I_,I_,I_,I_,I_,I_,I_,O_,O_,O_,O_]) rfl 52 hP27 hK27 ?_
    refine dU (i := 15) (listed' := #[I_,I_,I_,I_,I_,I_,I_,I_,I_,I_,I_,I_,I_,I_,I_,I_,O_,O_,O_]) rfl 52 hP27 hK27 ?_
    refine dU (i := 16) (listed' := #[I_,I_,I_,I_,I_,I_,I_,I_,I_,I_,I_,I_,I_,I_,I_,I_,I_,O_,O_]) rfl 52 hP27 hK27 ?_
    refine dS (i := 17) (listed' := #[I_,I_,I_,I_,I_,I_,I_,I_,I_,I_,I_,I_,I_,I_,I_,I_,I_,I_,O_]) rfl 41 hP27 rfl hK27 ?_
    refine dT (i := 18) (listed' := #[I_,I_,I_,I_,I_,I_,I_,I_,I_,I_,I_,I_,I_,I_,I_,I_,I_,I_,I_]) rfl hP27 hK27 (fun wS hS => (r_pickF (v := .bool false) rfl rfl)) ?_
    refine d_done (by kernel_rfl) ?_
    refine c_next ?_
    refine c_condF rfl ?_
    refine c_skip ?_
    refine c_next ?_
    rw [← Option.some.inj h] at hr25
    exact ⟨_, rfl, hr25, rfl, hO26, e26⟩
  intro gg25 w25 hI25
  clear h hr25
  obtain ⟨h, hsc2_1, hO25, e25⟩ := hI25
  replace h := hG_ hG25 h; clear hG25
  obtain ⟨qq25, rfl⟩ := fr1 hsc2_1
  clear hsc2_1
  refine c_seq ?_
  refine c_reg ?_
  refine sv (r_fieldAddr Try.underlying27 rfl I24 (by decide) rfl) ?_
  refine s_load1 (v := .slice _ _ _) Try.underlying24 rfl rfl (cellB (hO25.get (i := 0) rfl) rfl rfl) ?_
  refine sv (r_fieldAddr Try.underlying27 rfl I3 (by decide) rfl) ?_
  refine s_load1 (v := .int _ _) Try.underlying3 rfl rfl (cellB (hO25.get (i := 0) rfl) rfl rfl) ?_
  obtain ⟨y63, hy63, h⟩ := bindE h
  refine s_call cf40 rfl (c_roster_Find x0.Roster x0.Owner aP0 mP0 cP0 _ hy63 _ _ hm0p hc0p (hR0p.ext e25) hO25) ?_
  rintro er63 w33 ⟨rfl, hO33, e33⟩
  refine ⟨_, rfl, ?_⟩
  refine sv (r_move (v := .tuple _) rfl) ?_
  refine sv (r_extract rfl rfl) ?_
  refine sv (r_extract rfl rfl) ?_
  refine s_alloc I56 hO33 ?_
  intro b4 w34 hz4 hl4 hO34 e34
  have hO35 : Own w34 ((b4, .cells #[(.int .i64 0), (.int .i64 0), (.bool false), (.int .i64 0)] 56 (0, 0)) :: ((b1, .cells #[(.int .i64 x0.Epoch), (.int .i64 x0.Owner), (.int .i64 x0.Next), (.slice aP0 mP0 cP0), (.slice aP1 mP1 cP1)] 27 (0, 0)) :: L)) := hO34
  refine s_storeN (vs := #[(.int .i64 y63.1.Id), (.int .i64 y63.1.Times), (.bool y63.1.Gone), (.int .i64 y63.1.Last)]) I56 rfl rfl rfl hO35 (i := 0) rfl (Nat.le_of_ble_eq_true rfl) (List.all_eq_true.1 rfl) ?_
  intro w37 hO37 e37
  have hO38 : Own w37 ((b4, .cells #[(.int .i64 y63.1.Id), (.int .i64 y63.1.Times), (.bool y63.1.Gone), (.int .i64 y63.1.Last)] 56 (0, 0)) :: ((b1, .cells #[(.int .i64 x0.Epoch), (.int .i64 x0.Owner), (.int .i64 x0.Next), (.slice aP0 mP0 cP0), (.slice aP1 mP1 cP1)] 27 (0, 0)) :: L)) := hO37
  refine sv (r_assign (v := .bool _) rfl) ?_
  refine s_nil ?_
  refine c_next ?_
  refine c_seq ?_
  refine c_reg ?_
  refine sv (r_fieldAddr Try.underlying27 rfl I3 (by decide) rfl) ?_
  refine s_load1 (v := .int _ _) Try.underlying3 rfl rfl (cellB (hO38.get (i := 1) rfl) rfl rfl) ?_
  refine c_eql rfl rfl (fun h68 => ?_) (fun h68 => ?_)
  · replace h := iT h68 h
    refine sv (r_move (v := .bool true) rfl) ?_
    refine g_skip 69 (by rfl) rfl (by rfl) ?_
    refine g_skip 69 (by rfl) rfl (by rfl) ?_
    refine g_skipU 71 (by rfl) rfl ?_
    refine g_skipU 71 (by rfl) rfl ?_
    refine g_skipU 71 (by rfl) rfl ?_
    refine g_skip 69 (by rfl) rfl (by rfl) ?_
    refine sv (r_pickT (v := .bool true) rfl rfl) ?_
    refine sv (r_assign (v := .bool true) rfl) ?_
    refine s_nil ?_
    refine c_next ?_
    refine c_ret ?_
    refine e_1 (v := .bool true) Try.results16 rfl ?_
    obtain ⟨hO40, e40⟩ := hO38.drop1
    obtain ⟨hO41, e41⟩ := hO40.drop1
    rw [← Option.some.inj h]
    exact ⟨rfl, hO41, (e2.trans (e15.trans (e25.trans (e33.trans (e34.trans (e37.trans (e40.trans e41)))))))⟩
  replace h := iF h68 h
  refine sv (r_move (v := .bool false) rfl) ?_
  refine g_do 69 (by rfl) rfl ?_
  refine sv (r_move (v := .bool _) rfl) ?_
  refine g_do 69 (by rfl) rfl ?_
  refine sv (r_move (v := .bool _) rfl) ?_
  rcases Bool.eq_false_or_eq_true (y63.2) with hb42 | hb42
  · replace h := iT hb42 h
    refine g_do 71 (by rfl) (congrArg Value.bool hb42) ?_
    refine sv (r_fieldAddr Try.underlying56 rfl I4 (by decide) rfl) ?_
    refine g_do 71 (by rfl) (congrArg Value.bool hb42) ?_
    refine s_load1 (v := .bool _) Try.underlying4 rfl rfl (cellB (hO38.get (i := 0) rfl) rfl rfl) ?_
    refine g_do 71 (by rfl) (congrArg Value.bool hb42) ?_
    refine sv (r_not (b := y63.1.Gone) rfl) ?_
    refine g_do 69 (by rfl) rfl ?_
    refine sv (r_pickT (v := .bool _) (by exact (congrArg Value.bool hb42)) rfl) ?_
    refine sv (r_pickF (v := .bool _) rfl rfl) ?_
    refine sv (r_assign (v := .bool _) rfl) ?_
    refine s_nil ?_
    refine c_next ?_
    refine c_ret ?_
    refine e_1 (v := .bool _) Try.results16 rfl ?_
    obtain ⟨hO43, e43⟩ := hO38.drop1
    obtain ⟨hO44, e44⟩ := hO43.drop1
    rw [← Option.some.inj h]
    exact ⟨rfl, hO44, (e2.trans (e15.trans (e25.trans (e33.trans (e34.trans (e37.trans (e43.trans e44)))))))⟩
  replace h := iF (nt hb42) h
  refine g_skip 71 (by rfl) (congrArg Value.bool hb42) (by rfl) ?_
  refine g_skip 71 (by rfl) (congrArg Value.bool hb42) (by rfl) ?_
  refine g_skip 71 (by rfl) (congrArg Value.bool hb42) (by rfl) ?_
  refine g_do 69 (by rfl) rfl ?_
  refine sv (r_pickF (v := .bool false) (by exact (congrArg Value.bool hb42)) rfl) ?_
  refine sv (r_pickF (v := .bool false) rfl rfl) ?_
  refine sv (r_assign (v := .bool false) rfl) ?_
  refine s_nil ?_
  refine c_next ?_
  refine c_ret ?_
  refine e_1 (v := .bool false) Try.results16 rfl ?_
  obtain ⟨hO45, e45⟩ := hO38.drop1
  obtain ⟨hO46, e46⟩ := hO45.drop1
  rw [← Option.some.inj h]
  exact ⟨rfl, hO46, (e2.trans (e15.trans (e25.trans (e33.trans (e34.trans (e37.trans (e45.trans e46)))))))⟩
theorem c_claim_Moves (x0 : T_claim_State) (x1 : T_claim_Op) (aP0 : Option Addr) (mP0 cP0 : Nat) (aP1 : Option Addr) (mP1 cP1 : Nat)  (r : Bool) (h : F_claim_Moves x0 x1 = some r) (w : World) (L : Hp) (hm0p : x0.Roster.length = mP0) (hc0p : mP0 ≤ cP0) (hR0p : Rd w L aP0 (fl e_roster_Device x0.Roster)) (hm1p : x0.Tickets.length = mP1) (hc1p : mP1 ≤ cP1) (hR1p : Rd w L aP1 (fl e_ticket_Ticket x0.Tickets)) (hO : Own w L) :
    Calls Try.prog 17 #[(.agg #[(.int .i64 x0.Epoch), (.int .i64 x0.Owner), (.int .i64 x0.Next), (.slice aP0 mP0 cP0), (.slice aP1 mP1 cP1)]), (.agg #[(.int .i64 x1.Kind), (.int .i64 x1.Device), (.int .i64 x1.Request), (.int .i64 x1.Ticket), (.int .i64 x1.For), (.int .i64 x1.Until), (.int .i64 x1.Now)])] w fun en w' => en = .returned (.bool r) ∧ Own w' L ∧ Ext w L w' L := by
  unfold F_claim_Moves at h
  refine enter (n := 22) [(.agg #[(.int .i64 x0.Epoch), (.int .i64 x0.Owner), (.int .i64 x0.Next), (.slice aP0 mP0 cP0), (.slice aP1 mP1 cP1)]), (.agg #[(.int .i64 x1.Kind), (.int .i64 x1.Device), (.int .i64 x1.Request), (.int .i64 x1.Ticket), (.int .i64 x1.For), (.int .i64 x1.Until), (.int .i64 x1.Now)])] Try.func17 rfl rfl (Nat.le_of_ble_eq_true rfl) ?_
  refine c_seq ?_
  refine c_reg ?_
  refine s_box (v := (.agg #[(.int .i64 x0.Epoch), (.int .i64 x0.Owner), (.int .i64 x0.Next), (.slice aP0 mP0 cP0), (.slice aP1 mP1 cP1)])) rfl hO ?_
  intro b2 w3 hz2 hl2 hO3 e3
  have hO4 : Own w3 ((b2, .cells #[(.int .i64 x0.Epoch), (.int .i64 x0.Owner), (.int .i64 x0.Next), (.slice aP0 mP0 cP0), (.slice aP1 mP1 cP1)] 27 (0, 0)) :: L) := hO3
  refine s_box (v := (.agg #[(.int .i64 x1.Kind), (.int .i64 x1.Device), (.int .i64 x1.Request), (.int .i64 x1.Ticket), (.int .i64 x1.For), (.int .i64 x1.Until), (.int .i64 x1.Now)])) rfl hO4 ?_
  intro b3 w6 hz3 hl3 hO6 e6
  have hO7 : Own w6 ((b3, .cells #[(.int .i64 x1.Kind), (.int .i64 x1.Device), (.int .i64 x1.Request), (.int .i64 x1.Ticket), (.int .i64 x1.For), (.int .i64 x1.Until), (.int .i64 x1.Now)] 37 (0, 0)) :: ((b2, .cells #[(.int .i64 x0.Epoch), (.int .i64 x0.Owner), (.int .i64 x0.Next), (.slice aP0 mP0 cP0), (.slice aP1 mP1 cP1)] 27 (0, 0)) :: L)) := hO6
  refine sv (r_assign (v := .bool false) rfl) ?_
  refine s_nil ?_
  refine c_next ?_
  refine c_seq ?_
  refine c_reg ?_
  refine s_loadAll Try.underlying27 rfl I27 rfl (hO7.get (i := 1) rfl) rfl rfl ?_
  refine s_loadAll Try.underlying37 rfl I37 rfl (hO7.get (i := 0) rfl) rfl rfl ?_
  obtain ⟨y10, hy10, h⟩ := bindE h
  refine s_call cf9 rfl (c_claim_Do x0 x1 aP0 mP0 cP0 aP1 mP1 cP1 _ hy10 _ _ hm0p hc0p (hR0p.ext (e3.trans e6)) hm1p hc1p (hR1p.ext (e3.trans e6)) hO7) ?_
  rintro er10 w12 ⟨a10_0, m10_0, c10_0, S10_0, a10_1, m10_1, c10_1, S10_1, rfl, hm10_0, hS10_0, hm10_1, hS10_1, hO12, e12⟩
  refine ⟨_, rfl, ?_⟩
  refine sv (r_move (v := .tuple _) rfl) ?_
  refine sv (r_extract rfl rfl) ?_
  refine sv (r_extract rfl rfl) ?_
  refine s_alloc I27 hO12 ?_
  intro b5 w13 hz5 hl5 hO13 e13
  have hO14 : Own w13 ((b5, .cells #[(.int .i64 0), (.int .i64 0), (.int .i64 0), (.slice none 0 0), (.slice none 0 0)] 27 (0, 0)) :: (S10_0 ++ (S10_1 ++ ((b3, .cells #[(.int .i64 x1.Kind), (.int .i64 x1.Device), (.int .i64 x1.Request), (.int .i64 x1.Ticket), (.int .i64 x1.For), (.int .i64 x1.Until), (.int .i64 x1.Now)] 37 (0, 0)) :: ((b2, .cells #[(.int .i64 x0.Epoch), (.int .i64 x0.Owner), (.int .i64 x0.Next), (.slice aP0 mP0 cP0), (.slice aP1 mP1 cP1)] 27 (0, 0)) :: L))))) := hO13
  refine s_storeN (vs := #[(.int .i64 y10.1.Epoch), (.int .i64 y10.1.Owner), (.int .i64 y10.1.Next), (.slice a10_0 m10_0 c10_0), (.slice a10_1 m10_1 c10_1)]) I27 rfl rfl rfl hO14 (i := 0) rfl (Nat.le_of_ble_eq_true rfl) (List.all_eq_true.1 rfl) ?_
  intro w16 hO16 e16
  have hO17 : Own w16 ((b5, .cells #[(.int .i64 y10.1.Epoch), (.int .i64 y10.1.Owner), (.int .i64 y10.1.Next), (.slice a10_0 m10_0 c10_0), (.slice a10_1 m10_1 c10_1)] 27 (0, 0)) :: (S10_0 ++ (S10_1 ++ ((b3, .cells #[(.int .i64 x1.Kind), (.int .i64 x1.Device), (.int .i64 x1.Request), (.int .i64 x1.Ticket), (.int .i64 x1.For), (.int .i64 x1.Until), (.int .i64 x1.Now)] 37 (0, 0)) :: ((b2, .cells #[(.int .i64 x0.Epoch), (.int .i64 x0.Owner), (.int .i64 x0.Next), (.slice aP0 mP0 cP0), (.slice aP1 mP1 cP1)] 27 (0, 0)) :: L))))) := hO16
  refine sv (r_assign (v := .int _ _) rfl) ?_
  refine s_nil ?_
  refine c_next ?_
  refine c_seq ?_
  refine c_reg ?_
  refine sv (r_move (v := .int _ _) rfl) ?_
  refine c_eql rfl rfl (fun h14 => ?_) (fun h14 => ?_)
  · replace h := iT h14 h
    refine sv (r_move (v := .bool true) rfl) ?_
    refine g_do 15 (by rfl) rfl ?_
    refine sv (r_fieldAddr Try.underlying27 rfl I3 (by decide) rfl) ?_
    refine g_do 15 (by rfl) rfl ?_
    refine s_load1 (v := .int _ _) Try.underlying3 rfl rfl (cellB (hO17.get (i := 0) rfl) rfl rfl) ?_
    refine g_do 15 (by rfl) rfl ?_
    refine sv (r_fieldAddr Try.underlying27 rfl I3 (by decide) rfl) ?_
    refine g_do 15 (by rfl) rfl ?_
    refine s_load1 (v := .int _ _) Try.underlying3 rfl rfl (cellB ((hO17.perm (pmbC (pmbA (pmbA (pmbC pmb0))))).get (i := 0) rfl) rfl rfl) ?_
    refine g_do 15 (by rfl) rfl ?_
    refine c_gtr rfl rfl (fun h20 => ?_) (fun h20 => ?_)
    · replace h := iT h20 h
      refine sv (r_pickT (v := .bool true) rfl rfl) ?_
      refine sv (r_assign (v := .bool true) rfl) ?_
      refine s_nil ?_
      refine c_next ?_
      refine c_ret ?_
      refine e_1 (v := .bool true) Try.results17 rfl ?_
      obtain ⟨hO19, e19⟩ := hO17.drop1
      have hR20 := (hS10_0.drop hO19).2.2
      obtain ⟨hO20, e20⟩ := hO19.dropS
      have hR21 := (hS10_1.drop hO20).2.2
      obtain ⟨hO21, e21⟩ := hO20.dropS
      obtain ⟨hO22, e22⟩ := hO21.drop1
      obtain ⟨hO23, e23⟩ := hO22.drop1
      rw [← Option.some.inj h]
      exact ⟨rfl, hO23, (e3.trans (e6.trans (e12.trans (e13.trans (e16.trans (e19.trans (e20.trans (e21.trans (e22.trans e23)))))))))⟩
    replace h := iF (Int.not_lt.2 h20) h
    refine sv (r_pickT (v := .bool false) rfl rfl) ?_
    refine sv (r_assign (v := .bool false) rfl) ?_
    refine s_nil ?_
    refine c_next ?_
    refine c_ret ?_
    refine e_1 (v := .bool false) Try.results17 rfl ?_
    obtain ⟨hO24, e24⟩ := hO17.drop1
    have hR25 := (hS10_0.drop hO24).2.2
    obtain ⟨hO25, e25⟩ := hO24.dropS
    have hR26 := (hS10_1.drop hO25).2.2
    obtain ⟨hO26, e26⟩ := hO25.dropS
    obtain ⟨hO27, e27⟩ := hO26.drop1
    obtain ⟨hO28, e28⟩ := hO27.drop1
    rw [← Option.some.inj h]
    exact ⟨rfl, hO28, (e3.trans (e6.trans (e12.trans (e13.trans (e16.trans (e24.trans (e25.trans (e26.trans (e27.trans e28)))))))))⟩
  replace h := iF h14 h
  refine sv (r_move (v := .bool false) rfl) ?_
  refine g_skip 15 (by rfl) rfl (by rfl) ?_
  refine g_skip 15 (by rfl) rfl (by rfl) ?_
  refine g_skip 15 (by rfl) rfl (by rfl) ?_
  refine g_skip 15 (by rfl) rfl (by rfl) ?_
  refine g_skip 15 (by rfl) rfl (by rfl) ?_
  refine sv (r_pickF (v := .bool false) rfl rfl) ?_
  refine sv (r_assign (v := .bool false) rfl) ?_
  refine s_nil ?_
  refine c_next ?_
  refine c_ret ?_
  refine e_1 (v := .bool false) Try.results17 rfl ?_
  obtain ⟨hO29, e29⟩ := hO17.drop1
  have hR30 := (hS10_0.drop hO29).2.2
  obtain ⟨hO30, e30⟩ := hO29.dropS
  have hR31 := (hS10_1.drop hO30).2.2
  obtain ⟨hO31, e31⟩ := hO30.dropS
  obtain ⟨hO32, e32⟩ := hO31.drop1
  obtain ⟨hO33, e33⟩ := hO32.drop1
  rw [← Option.some.inj h]
  exact ⟨rfl, hO33, (e3.trans (e6.trans (e12.trans (e13.trans (e16.trans (e29.trans (e30.trans (e31.trans (e32.trans e33)))))))))⟩
theorem c_batonlaw27_ClaimRises (x0 : T_claim_State) (x1 : T_claim_Op) (aP0 : Option Addr) (mP0 cP0 : Nat) (aP1 : Option Addr) (mP1 cP1 : Nat)  (r : Bool) (h : F_batonlaw27_ClaimRises x0 x1 = some r) (w : World) (L : Hp) (hm0p : x0.Roster.length = mP0) (hc0p : mP0 ≤ cP0) (hR0p : Rd w L aP0 (fl e_roster_Device x0.Roster)) (hm1p : x0.Tickets.length = mP1) (hc1p : mP1 ≤ cP1) (hR1p : Rd w L aP1 (fl e_ticket_Ticket x0.Tickets)) (hO : Own w L) :
    Calls Try.prog 5 #[(.agg #[(.int .i64 x0.Epoch), (.int .i64 x0.Owner), (.int .i64 x0.Next), (.slice aP0 mP0 cP0), (.slice aP1 mP1 cP1)]), (.agg #[(.int .i64 x1.Kind), (.int .i64 x1.Device), (.int .i64 x1.Request), (.int .i64 x1.Ticket), (.int .i64 x1.For), (.int .i64 x1.Until), (.int .i64 x1.Now)])] w fun en w' => en = .returned (.bool r) ∧ Own w' L ∧ Ext w L w' L := by
  unfold F_batonlaw27_ClaimRises at h
  refine enter (n := 84) [(.agg #[(.int .i64 x0.Epoch), (.int .i64 x0.Owner), (.int .i64 x0.Next), (.slice aP0 mP0 cP0), (.slice aP1 mP1 cP1)]), (.agg #[(.int .i64 x1.Kind), (.int .i64 x1.Device), (.int .i64 x1.Request), (.int .i64 x1.Ticket), (.int .i64 x1.For), (.int .i64 x1.Until), (.int .i64 x1.Now)])] Try.func5 rfl rfl (Nat.le_of_ble_eq_true rfl) ?_
  refine c_seq ?_
  refine c_reg ?_
  refine s_box (v := (.agg #[(.int .i64 x0.Epoch), (.int .i64 x0.Owner), (.int .i64 x0.Next), (.slice aP0 mP0 cP0), (.slice aP1 mP1 cP1)])) rfl hO ?_
  intro b2 w3 hz2 hl2 hO3 e3
  have hO4 : Own w3 ((b2, .cells #[(.int .i64 x0.Epoch), (.int .i64 x0.Owner), (.int .i64 x0.Next), (.slice aP0 mP0 cP0), (.slice aP1 mP1 cP1)] 27 (0, 0)) :: L) := hO3
  refine s_box (v := (.agg #[(.int .i64 x1.Kind), (.int .i64 x1.Device), (.int .i64 x1.Request), (.int .i64 x1.Ticket), (.int .i64 x1.For), (.int .i64 x1.Until), (.int .i64 x1.Now)])) rfl hO4 ?_
  intro b3 w6 hz3 hl3 hO6 e6
  have hO7 : Own w6 ((b3, .cells #[(.int .i64 x1.Kind), (.int .i64 x1.Device), (.int .i64 x1.Request), (.int .i64 x1.Ticket), (.int .i64 x1.For), (.int .i64 x1.Until), (.int .i64 x1.Now)] 37 (0, 0)) :: ((b2, .cells #[(.int .i64 x0.Epoch), (.int .i64 x0.Owner), (.int .i64 x0.Next), (.slice aP0 mP0 cP0), (.slice aP1 mP1 cP1)] 27 (0, 0)) :: L)) := hO6
  refine sv (r_assign (v := .bool false) rfl) ?_
  refine s_nil ?_
  refine c_next ?_
  refine c_seq ?_
  refine c_seq ?_
  refine c_reg ?_
  obtain ⟨y8, hy8, h⟩ := bindE h
  refine s_call cf7 rfl (c_batonlaw27_awake _ hy8 _ _ hO7) ?_
  rintro er8 w12 ⟨rfl, hO12, e12⟩
  refine ⟨_, rfl, ?_⟩
  refine sv (r_not (b := y8) rfl) ?_
  refine s_nil ?_
  refine c_next ?_
  rcases Bool.eq_false_or_eq_true (y8) with hb13 | hb13
  · replace h := iT hb13 h
    refine c_condF (congrArg Value.bool (nnt hb13)) ?_
    refine c_skip ?_
    refine c_next ?_
    refine c_seq ?_
    have hR0p := (hR0p.ext (e3.trans (e6.trans e12)))
    have hR1p := (hR1p.ext (e3.trans (e6.trans e12)))
    obtain ⟨oc24, G24, hG24, h, hr24⟩ := bindG h
    refine c_cutL hO12 (fun Lc f0 g w' => ∃ (xc1_t17 : Bool), (G24 xc1_t17 = some r) ∧ g 2 = (.pointer (some ⟨b2, 0, none⟩)) ∧ g 3 = (.pointer (some ⟨b3, 0, none⟩)) ∧ g 17 = (.bool xc1_t17) ∧ Own w' ((b2, .cells #[(.int .i64 x0.Epoch), (.int .i64 x0.Owner), (.int .i64 x0.Next), (.slice aP0 mP0 cP0), (.slice aP1 mP1 cP1)] 27 (0, 0)) :: ((b3, .cells #[(.int .i64 x1.Kind), (.int .i64 x1.Device), (.int .i64 x1.Request), (.int .i64 x1.Ticket), (.int .i64 x1.For), (.int .i64 x1.Until), (.int .i64 x1.Now)] 37 (0, 0)) :: L)) ∧ Ext w12 Lc w' ((b2, .cells #[(.int .i64 x0.Epoch), (.int .i64 x0.Owner), (.int .i64 x0.Next), (.slice aP0 mP0 cP0), (.slice aP1 mP1 cP1)] 27 (0, 0)) :: ((b3, .cells #[(.int .i64 x1.Kind), (.int .i64 x1.Device), (.int .i64 x1.Request), (.int .i64 x1.Ticket), (.int .i64 x1.For), (.int .i64 x1.Until), (.int .i64 x1.Now)] 37 (0, 0)) :: L))) ?_ ?_
    · skip
      refine c_reg ?_
      refine s_loadAll Try.underlying27 rfl I27 rfl (hO12.get (i := 1) rfl) rfl rfl ?_
      obtain ⟨y11, hy11, h⟩ := bindE h
      refine s_call cf15 rfl (c_batonlaw27_Few x0 aP0 mP0 cP0 aP1 mP1 cP1 _ hy11 _ _ hm0p hc0p hR0p hm1p hc1p hR1p hO12) ?_
      rintro er11 w25 ⟨rfl, hO25, e25⟩
      refine ⟨_, rfl, ?_⟩
      refine sv (r_not (b := y11) rfl) ?_
      refine sv (r_move (v := .bool _) rfl) ?_
      rcases Bool.eq_false_or_eq_true (y11) with hb26 | hb26
      · replace h := iT hb26 h
        refine g_do 13 (by rfl) (congrArg Value.bool (nnt hb26)) ?_
        refine s_loadAll Try.underlying27 rfl I27 rfl (hO25.get (i := 1) rfl) rfl rfl ?_
        refine g_do 13 (by rfl) (congrArg Value.bool (nnt hb26)) ?_
        obtain ⟨y15, hy15, h⟩ := bindE h
        refine s_call cf16 rfl (c_claim_Right x0 aP0 mP0 cP0 aP1 mP1 cP1 _ hy15 _ _ hm0p hc0p (hR0p.ext e25) hm1p hc1p (hR1p.ext e25) hO25) ?_
        rintro er15 w27 ⟨rfl, hO27, e27⟩
        refine ⟨_, rfl, ?_⟩
        refine g_do 13 (by rfl) (congrArg Value.bool (nnt hb26)) ?_
        refine sv (r_not (b := y15) rfl) ?_
        refine sv (r_pickF (v := .bool _) (by exact (congrArg Value.bool (nnt hb26))) rfl) ?_
        refine s_nil ?_
        refine c_next ?_
        rw [← Option.some.inj h] at hr24
        obtain ⟨hO28, e28⟩ := hO27.permE (pmbC pmb0)
        exact ⟨_, rfl, (!y15), hr24, rfl, rfl, rfl, hO28, (e25.trans (e27.trans e28))⟩
      replace h := iF (nt hb26) h
      refine g_skip 13 (by rfl) (congrArg Value.bool (nnf hb26)) (by rfl) ?_
      refine g_skip 13 (by rfl) (congrArg Value.bool (nnf hb26)) (by rfl) ?_
      refine g_skip 13 (by rfl) (congrArg Value.bool (nnf hb26)) (by rfl) ?_
      refine sv (r_pickT (v := .bool true) (by exact (congrArg Value.bool (nnf hb26))) rfl) ?_
      refine s_nil ?_
      refine c_next ?_
      rw [← Option.some.inj h] at hr24
      obtain ⟨hO29, e29⟩ := hO25.permE (pmbC pmb0)
      exact ⟨_, rfl, true, hr24, rfl, rfl, rfl, hO29, (e25.trans e29)⟩
    intro gg24 w24 hI24
    clear h hr24
    obtain ⟨xc1_t17, h, hsc1_2, hsc1_3, hsc1_17, hO24, e24⟩ := hI24
    replace h := hG_ hG24 h; clear hG24
    obtain ⟨qq24, rfl⟩ := fr3 hsc1_2 hsc1_3 hsc1_17
    clear hsc1_2 hsc1_3 hsc1_17
    rcases Bool.eq_false_or_eq_true (xc1_t17) with hb30 | hb30
    · replace h := iT hb30 h
      refine c_condT (congrArg Value.bool hb30) ?_
      refine c_seq ?_
      refine c_reg ?_
      refine sv (r_assign (v := .bool true) rfl) ?_
      refine s_nil ?_
      refine c_next ?_
      refine c_ret ?_
      refine r_then ?_
      refine e_1 (v := .bool true) Try.results5 rfl ?_
      obtain ⟨hO31, e31⟩ := hO24.drop1
      obtain ⟨hO32, e32⟩ := hO31.drop1
      rw [← Option.some.inj h]
      exact ⟨rfl, hO32, (e3.trans (e6.trans (e12.trans (e24.trans (e31.trans e32)))))⟩
    replace h := iF (nt hb30) h
    refine c_condF (congrArg Value.bool hb30) ?_
    refine c_skip ?_
    refine c_next ?_
    refine c_seq ?_
    refine c_reg ?_
    refine s_loadAll Try.underlying27 rfl I27 rfl (hO24.get (i := 0) rfl) rfl rfl ?_
    refine s_loadAll Try.underlying37 rfl I37 rfl (hO24.get (i := 1) rfl) rfl rfl ?_
    obtain ⟨y21, hy21, h⟩ := bindE h
    refine s_call cf9 rfl (c_claim_Do x0 x1 aP0 mP0 cP0 aP1 mP1 cP1 _ hy21 _ _ hm0p hc0p (hR0p.ext e24) hm1p hc1p (hR1p.ext e24) hO24) ?_
    rintro er21 w36 ⟨a21_0, m21_0, c21_0, S21_0, a21_1, m21_1, c21_1, S21_1, rfl, hm21_0, hS21_0, hm21_1, hS21_1, hO36, e36⟩
    refine ⟨_, rfl, ?_⟩
    refine sv (r_move (v := .tuple _) rfl) ?_
    refine sv (r_extract rfl rfl) ?_
    refine sv (r_extract rfl rfl) ?_
    refine s_alloc I27 hO36 ?_
    intro b5 w37 hz5 hl5 hO37 e37
    have hO38 : Own w37 ((b5, .cells #[(.int .i64 0), (.int .i64 0), (.int .i64 0), (.slice none 0 0), (.slice none 0 0)] 27 (0, 0)) :: (S21_0 ++ (S21_1 ++ ((b2, .cells #[(.int .i64 x0.Epoch), (.int .i64 x0.Owner), (.int .i64 x0.Next), (.slice aP0 mP0 cP0), (.slice aP1 mP1 cP1)] 27 (0, 0)) :: ((b3, .cells #[(.int .i64 x1.Kind), (.int .i64 x1.Device), (.int .i64 x1.Request), (.int .i64 x1.Ticket), (.int .i64 x1.For), (.int .i64 x1.Until), (.int .i64 x1.Now)] 37 (0, 0)) :: L))))) := hO37
    refine s_storeN (vs := #[(.int .i64 y21.1.Epoch), (.int .i64 y21.1.Owner), (.int .i64 y21.1.Next), (.slice a21_0 m21_0 c21_0), (.slice a21_1 m21_1 c21_1)]) I27 rfl rfl rfl hO38 (i := 0) rfl (Nat.le_of_ble_eq_true rfl) (List.all_eq_true.1 rfl) ?_
    intro w40 hO40 e40
    have hO41 : Own w40 ((b5, .cells #[(.int .i64 y21.1.Epoch), (.int .i64 y21.1.Owner), (.int .i64 y21.1.Next), (.slice a21_0 m21_0 c21_0), (.slice a21_1 m21_1 c21_1)] 27 (0, 0)) :: (S21_0 ++ (S21_1 ++ ((b2, .cells #[(.int .i64 x0.Epoch), (.int .i64 x0.Owner), (.int .i64 x0.Next), (.slice aP0 mP0 cP0), (.slice aP1 mP1 cP1)] 27 (0, 0)) :: ((b3, .cells #[(.int .i64 x1.Kind), (.int .i64 x1.Device), (.int .i64 x1.Request), (.int .i64 x1.Ticket), (.int .i64 x1.For), (.int .i64 x1.Until), (.int .i64 x1.Now)] 37 (0, 0)) :: L))))) := hO40
    refine sv (r_assign (v := .int _ _) rfl) ?_
    refine s_nil ?_
    refine c_next ?_
    refine c_seq ?_
    have hR0p := (hR0p.ext (e24.trans (e36.trans (e37.trans e40))))
    have hR1p := (hR1p.ext (e24.trans (e36.trans (e37.trans e40))))
    obtain ⟨oc44, G44, hG44, h, hr44⟩ := bindG h
    refine c_cutL hO41 (fun Lc f0 g w' => ∃ (xc2_t28 : Bool), (G44 xc2_t28 = some r) ∧ g 2 = (.pointer (some ⟨b2, 0, none⟩)) ∧ g 3 = (.pointer (some ⟨b3, 0, none⟩)) ∧ g 5 = (.pointer (some ⟨b5, 0, none⟩)) ∧ g 28 = (.bool xc2_t28) ∧ Own w' (S21_0 ++ (S21_1 ++ ((b2, .cells #[(.int .i64 x0.Epoch), (.int .i64 x0.Owner), (.int .i64 x0.Next), (.slice aP0 mP0 cP0), (.slice aP1 mP1 cP1)] 27 (0, 0)) :: ((b3, .cells #[(.int .i64 x1.Kind), (.int .i64 x1.Device), (.int .i64 x1.Request), (.int .i64 x1.Ticket), (.int .i64 x1.For), (.int .i64 x1.Until), (.int .i64 x1.Now)] 37 (0, 0)) :: ((b5, .cells #[(.int .i64 y21.1.Epoch), (.int .i64 y21.1.Owner), (.int .i64 y21.1.Next), (.slice a21_0 m21_0 c21_0), (.slice a21_1 m21_1 c21_1)] 27 (0, 0)) :: L))))) ∧ Ext w40 Lc w' (S21_0 ++ (S21_1 ++ ((b2, .cells #[(.int .i64 x0.Epoch), (.int .i64 x0.Owner), (.int .i64 x0.Next), (.slice aP0 mP0 cP0), (.slice aP1 mP1 cP1)] 27 (0, 0)) :: ((b3, .cells #[(.int .i64 x1.Kind), (.int .i64 x1.Device), (.int .i64 x1.Request), (.int .i64 x1.Ticket), (.int .i64 x1.For), (.int .i64 x1.Until), (.int .i64 x1.Now)] 37 (0, 0)) :: ((b5, .cells #[(.int .i64 y21.1.Epoch), (.int .i64 y21.1.Owner), (.int .i64 y21.1.Next), (.slice a21_0 m21_0 c21_0), (.slice a21_1 m21_1 c21_1)] 27 (0, 0)) :: L)))))) ?_ ?_
    · skip
      refine c_reg ?_
      refine sv (r_fieldAddr Try.underlying27 rfl I3 (by decide) rfl) ?_
      refine s_load1 (v := .int _ _) Try.underlying3 rfl rfl (cellB (hO41.get (i := 0) rfl) rfl rfl) ?_
      refine sv (r_fieldAddr Try.underlying27 rfl I3 (by decide) rfl) ?_
      refine s_load1 (v := .int _ _) Try.underlying3 rfl rfl (cellB ((hO41.perm (pmbC (pmbA (pmbA pmb0)))).get (i := 0) rfl) rfl rfl) ?_
      refine c_eql rfl rfl (fun h28 => ?_) (fun h28 => ?_)
      · replace h := iT h28 h
        refine s_nil ?_
        refine c_next ?_
        rw [← Option.some.inj h] at hr44
        obtain ⟨hO45, e45⟩ := hO41.permE (pmbC (pmbA (pmbA (pmbC pmb0))))
        obtain ⟨hO46, e46⟩ := hO45.permE (pmbC (pmbC (pmbA (pmbA pmb0))))
        obtain ⟨hO47, e47⟩ := hO46.permE (pmC (pmC (pmC (pmA pm0))))
        obtain ⟨hO48, e48⟩ := hO47.permE (pmA (pmC (pmC (pmC pm0))))
        exact ⟨_, rfl, true, hr44, rfl, rfl, rfl, rfl, hO48, (e45.trans (e46.trans (e47.trans e48)))⟩
      replace h := iF h28 h
      refine s_nil ?_
      refine c_next ?_
      rw [← Option.some.inj h] at hr44
      obtain ⟨hO49, e49⟩ := hO41.permE (pmbC (pmbA (pmbA (pmbC pmb0))))
      obtain ⟨hO50, e50⟩ := hO49.permE (pmbC (pmbC (pmbA (pmbA pmb0))))
      obtain ⟨hO51, e51⟩ := hO50.permE (pmC (pmC (pmC (pmA pm0))))
      obtain ⟨hO52, e52⟩ := hO51.permE (pmA (pmC (pmC (pmC pm0))))
      exact ⟨_, rfl, false, hr44, rfl, rfl, rfl, rfl, hO52, (e49.trans (e50.trans (e51.trans e52)))⟩
    intro gg44 w44 hI44
    clear h hr44
    obtain ⟨xc2_t28, h, hsc2_2, hsc2_3, hsc2_5, hsc2_28, hO44, e44⟩ := hI44
    replace h := hG_ hG44 h; clear hG44
    obtain ⟨qq44, rfl⟩ := fr4 hsc2_2 hsc2_3 hsc2_5 hsc2_28
    clear hsc2_2 hsc2_3 hsc2_5 hsc2_28
    rcases Bool.eq_false_or_eq_true (xc2_t28) with hb53 | hb53
    · replace h := iT hb53 h
      refine c_condT (congrArg Value.bool hb53) ?_
      have hR0p := (hR0p.ext e44)
      have hR1p := (hR1p.ext e44)
      obtain ⟨oc56, G56, hG56, h, hr56⟩ := bindG h
      refine c_cutL hO44 (fun Lc f0 g w' => ∃ (xc3_t4 : Bool), (G56 xc3_t4 = some r) ∧ g 4 = (.bool xc3_t4) ∧ Own w' L ∧ Ext w44 Lc w' L) ?_ ?_
      · skip
        refine c_reg ?_
        refine sv (r_fieldAddr Try.underlying27 rfl I3 (by decide) rfl) ?_
        refine s_load1 (v := .int _ _) Try.underlying3 rfl rfl (cellB ((hO44.perm (pmbA (pmbA (pmbC (pmbC pmb0))))).get (i := 0) rfl) rfl rfl) ?_
        refine sv (r_fieldAddr Try.underlying27 rfl I3 (by decide) rfl) ?_
        refine s_load1 (v := .int _ _) Try.underlying3 rfl rfl (cellB ((hO44.perm (pmbA (pmbA pmb0))).get (i := 0) rfl) rfl rfl) ?_
        refine c_eql rfl rfl (fun h33 => ?_) (fun h33 => ?_)
        · replace h := iT h33 h
          refine sv (r_move (v := .bool true) rfl) ?_
          refine g_do 34 (by rfl) rfl ?_
          refine s_loadAll Try.underlying27 rfl I27 rfl ((hO44.perm (pmbA (pmbA pmb0))).get (i := 0) rfl) rfl rfl ?_
          refine g_do 34 (by rfl) rfl ?_
          refine s_loadAll Try.underlying37 rfl I37 rfl ((hO44.perm (pmbA (pmbA (pmbC pmb0)))).get (i := 0) rfl) rfl rfl ?_
          refine g_do 34 (by rfl) rfl ?_
          obtain ⟨y37, hy37, h⟩ := bindE h
          refine s_call cf17 rfl (c_claim_Moves x0 x1 aP0 mP0 cP0 aP1 mP1 cP1 _ hy37 _ _ hm0p hc0p hR0p hm1p hc1p hR1p hO44) ?_
          rintro er37 w57 ⟨rfl, hO57, e57⟩
          refine ⟨_, rfl, ?_⟩
          refine g_do 34 (by rfl) rfl ?_
          refine sv (r_not (b := y37) rfl) ?_
          refine sv (r_pickT (v := .bool _) rfl rfl) ?_
          refine sv (r_assign (v := .bool _) rfl) ?_
          refine s_nil ?_
          refine c_next ?_
          rw [← Option.some.inj h] at hr56
          have hR58 := (hS21_0.drop hO57).2.2
          obtain ⟨hO58, e58⟩ := hO57.dropS
          have hR59 := (hS21_1.drop hO58).2.2
          obtain ⟨hO59, e59⟩ := hO58.dropS
          obtain ⟨hO60, e60⟩ := hO59.drop1
          obtain ⟨hO61, e61⟩ := hO60.drop1
          obtain ⟨hO62, e62⟩ := hO61.drop1
          exact ⟨_, rfl, (!y37), hr56, rfl, hO62, (e57.trans (e58.trans (e59.trans (e60.trans (e61.trans e62)))))⟩
        replace h := iF h33 h
        refine sv (r_move (v := .bool false) rfl) ?_
        refine g_skip 34 (by rfl) rfl (by rfl) ?_
        refine g_skip 34 (by rfl) rfl (by rfl) ?_
        refine g_skip 34 (by rfl) rfl (by rfl) ?_
        refine g_skip 34 (by rfl) rfl (by rfl) ?_
        refine sv (r_pickF (v := .bool false) rfl rfl) ?_
        refine sv (r_assign (v := .bool false) rfl) ?_
        refine s_nil ?_
        refine c_next ?_
        rw [← Option.some.inj h] at hr56
        have hR63 := (hS21_0.drop hO44).2.2
        obtain ⟨hO63, e63⟩ := hO44.dropS
        have hR64 := (hS21_1.drop hO63).2.2
        obtain ⟨hO64, e64⟩ := hO63.dropS
        obtain ⟨hO65, e65⟩ := hO64.drop1
        obtain ⟨hO66, e66⟩ := hO65.drop1
        obtain ⟨hO67, e67⟩ := hO66.drop1
        exact ⟨_, rfl, false, hr56, rfl, hO67, (e63.trans (e64.trans (e65.trans (e66.trans e67))))⟩
      intro gg56 w56 hI56
      clear h hr56
      obtain ⟨xc3_t4, h, hsc3_4, hO56, e56⟩ := hI56
      replace h := hG_ hG56 h; clear hG56
      obtain ⟨qq56, rfl⟩ := fr1 hsc3_4
      clear hsc3_4
      refine c_ret ?_
      refine r_then ?_
      refine e_1 (v := .bool _) Try.results5 rfl ?_
      rw [← Option.some.inj h]
      exact ⟨rfl, hO56, (e3.trans (e6.trans (e12.trans (e24.trans (e36.trans (e37.trans (e40.trans (e44.trans e56))))))))⟩
    replace h := iF (nt hb53) h
    refine c_condF (congrArg Value.bool hb53) ?_
    refine c_skip ?_
    refine c_next ?_
    have hR0p := (hR0p.ext e44)
    have hR1p := (hR1p.ext e44)
    obtain ⟨oc68, G68, hG68, h, hr68⟩ := bindG h
    refine c_cutL hO44 (fun Lc f0 g w' => ∃ (xc4_t7 : Bool), (G68 xc4_t7 = some r) ∧ g 2 = (.pointer (some ⟨b2, 0, none⟩)) ∧ g 3 = (.pointer (some ⟨b3, 0, none⟩)) ∧ g 5 = (.pointer (some ⟨b5, 0, none⟩)) ∧ g 7 = (.bool xc4_t7) ∧ Own w' (S21_0 ++ (S21_1 ++ ((b2, .cells #[(.int .i64 x0.Epoch), (.int .i64 x0.Owner), (.int .i64 x0.Next), (.slice aP0 mP0 cP0), (.slice aP1 mP1 cP1)] 27 (0, 0)) :: ((b3, .cells #[(.int .i64 x1.Kind), (.int .i64 x1.Device), (.int .i64 x1.Request), (.int .i64 x1.Ticket), (.int .i64 x1.For), (.int .i64 x1.Until), (.int .i64 x1.Now)] 37 (0, 0)) :: ((b5, .cells #[(.int .i64 y21.1.Epoch), (.int .i64 y21.1.Owner), (.int .i64 y21.1.Next), (.slice a21_0 m21_0 c21_0), (.slice a21_1 m21_1 c21_1)] 27 (0, 0)) :: L))))) ∧ Ext w44 Lc w' (S21_0 ++ (S21_1 ++ ((b2, .cells #[(.int .i64 x0.Epoch), (.int .i64 x0.Owner), (.int .i64 x0.Next), (.slice aP0 mP0 cP0), (.slice aP1 mP1 cP1)] 27 (0, 0)) :: ((b3, .cells #[(.int .i64 x1.Kind), (.int .i64 x1.Device), (.int .i64 x1.Request), (.int .i64 x1.Ticket), (.int .i64 x1.For), (.int .i64 x1.Until), (.int .i64 x1.Now)] 37 (0, 0)) :: ((b5, .cells #[(.int .i64 y21.1.Epoch), (.int .i64 y21.1.Owner), (.int .i64 y21.1.Next), (.slice a21_0 m21_0 c21_0), (.slice a21_1 m21_1 c21_1)] 27 (0, 0)) :: L)))))) ?_ ?_
    · skip
      refine c_reg ?_
      refine sv (r_fieldAddr Try.underlying37 rfl I3 (by decide) rfl) ?_
      refine s_load1 (v := .int _ _) Try.underlying3 rfl rfl (cellB ((hO44.perm (pmbA (pmbA (pmbC pmb0)))).get (i := 0) rfl) rfl rfl) ?_
      refine c_eql rfl rfl (fun h42 => ?_) (fun h42 => ?_)
      · replace h := iT h42 h
        refine sv (r_move (v := .bool true) rfl) ?_
        refine g_skip 43 (by rfl) rfl (by rfl) ?_
        refine g_skip 43 (by rfl) rfl (by rfl) ?_
        refine g_skip 43 (by rfl) rfl (by rfl) ?_
        refine sv (r_pickT (v := .bool true) rfl rfl) ?_
        refine sv (r_assign (v := .bool true) rfl) ?_
        refine s_nil ?_
        refine c_next ?_
        rw [← Option.some.inj h] at hr68
        exact ⟨_, rfl, true, hr68, rfl, rfl, rfl, rfl, hO44, (Ext.refl _ _)⟩
      replace h := iF h42 h
      refine sv (r_move (v := .bool false) rfl) ?_
      refine g_do 43 (by rfl) rfl ?_
      refine sv (r_fieldAddr Try.underlying37 rfl I3 (by decide) rfl) ?_
      refine g_do 43 (by rfl) rfl ?_
      refine s_load1 (v := .int _ _) Try.underlying3 rfl rfl (cellB ((hO44.perm (pmbA (pmbA (pmbC pmb0)))).get (i := 0) rfl) rfl rfl) ?_
      refine g_do 43 (by rfl) rfl ?_
      refine c_eql rfl rfl (fun h46 => ?_) (fun h46 => ?_)
      · replace h := iT h46 h
        refine sv (r_pickF (v := .bool true) rfl rfl) ?_
        refine sv (r_assign (v := .bool true) rfl) ?_
        refine s_nil ?_
        refine c_next ?_
        rw [← Option.some.inj h] at hr68
        exact ⟨_, rfl, true, hr68, rfl, rfl, rfl, rfl, hO44, (Ext.refl _ _)⟩
      replace h := iF h46 h
      refine sv (r_pickF (v := .bool false) rfl rfl) ?_
      refine sv (r_assign (v := .bool false) rfl) ?_
      refine s_nil ?_
      refine c_next ?_
      rw [← Option.some.inj h] at hr68
      exact ⟨_, rfl, false, hr68, rfl, rfl, rfl, rfl, hO44, (Ext.refl _ _)⟩
    intro gg68 w68 hI68
    clear h hr68
    obtain ⟨xc4_t7, h, hsc4_2, hsc4_3, hsc4_5, hsc4_7, hO68, e68⟩ := hI68
    replace h := hG_ hG68 h; clear hG68
    obtain ⟨qq68, rfl⟩ := fr4 hsc4_2 hsc4_3 hsc4_5 hsc4_7
    clear hsc4_2 hsc4_3 hsc4_5 hsc4_7
    refine c_seq ?_
    refine c_reg ?_
    refine sv (r_fieldAddr Try.underlying27 rfl I3 (by decide) rfl) ?_
    refine s_load1 (v := .int _ _) Try.underlying3 rfl rfl (cellB ((hO68.perm (pmbA (pmbA (pmbC (pmbC pmb0))))).get (i := 0) rfl) rfl rfl) ?_
    refine sv (r_fieldAddr Try.underlying27 rfl I3 (by decide) rfl) ?_
    refine s_load1 (v := .int _ _) Try.underlying3 rfl rfl (cellB ((hO68.perm (pmbA (pmbA pmb0))).get (i := 0) rfl) rfl rfl) ?_
    refine sv (r_addI (a := x0.Epoch) (b := 1) rfl rfl) ?_
    refine c_eql rfl rfl (fun h53 => ?_) (fun h53 => ?_)
    · replace h := iT h53 h
      refine sv (r_move (v := .bool true) rfl) ?_
      refine g_do 54 (by rfl) rfl ?_
      refine s_loadAll Try.underlying27 rfl I27 rfl ((hO68.perm (pmbA (pmbA pmb0))).get (i := 0) rfl) rfl rfl ?_
      refine g_do 54 (by rfl) rfl ?_
      refine s_loadAll Try.underlying37 rfl I37 rfl ((hO68.perm (pmbA (pmbA (pmbC pmb0)))).get (i := 0) rfl) rfl rfl ?_
      refine g_do 54 (by rfl) rfl ?_
      obtain ⟨y57, hy57, h⟩ := bindE h
      refine s_call cf17 rfl (c_claim_Moves x0 x1 aP0 mP0 cP0 aP1 mP1 cP1 _ hy57 _ _ hm0p hc0p (hR0p.ext e68) hm1p hc1p (hR1p.ext e68) hO68) ?_
      rintro er57 w69 ⟨rfl, hO69, e69⟩
      refine ⟨_, rfl, ?_⟩
      refine sv (r_pickT (v := .bool _) rfl rfl) ?_
      refine sv (r_move (v := .bool _) rfl) ?_
      rcases Bool.eq_false_or_eq_true (y57) with hb70 | hb70
      · replace h := iT hb70 h
        refine g_do 59 (by rfl) (congrArg Value.bool hb70) ?_
        refine sv (r_fieldAddr Try.underlying27 rfl I25 (by decide) rfl) ?_
        refine g_do 59 (by rfl) (congrArg Value.bool hb70) ?_
        refine s_load1 (v := .slice _ _ _) Try.underlying25 rfl rfl (cellB ((hO69.perm (pmbA (pmbA (pmbC (pmbC pmb0))))).get (i := 0) rfl) rfl rfl) ?_
        refine g_do 59 (by rfl) (congrArg Value.bool hb70) ?_
        refine sv (r_lenL (xs := y21.1.Tickets) Try.underlying25 rfl hm21_1) ?_
        refine g_do 59 (by rfl) (congrArg Value.bool hb70) ?_
        refine c_eql rfl rfl (fun h63 => ?_) (fun h63 => ?_)
        · replace h := iT h63 h
          refine sv (r_pickT (v := .bool true) (by exact (congrArg Value.bool hb70)) rfl) ?_
          refine sv (r_move (v := .bool true) rfl) ?_
          refine g_do 65 (by rfl) rfl ?_
          refine sv (r_move (v := .bool _) rfl) ?_
          refine g_do 65 (by rfl) rfl ?_
          refine sv (r_move (v := .bool _) rfl) ?_
          rcases Bool.eq_false_or_eq_true (xc4_t7) with hb71 | hb71
          · replace h := iT hb71 h
            refine g_do 67 (by rfl) (congrArg Value.bool hb71) ?_
            refine sv (r_fieldAddr Try.underlying27 rfl I3 (by decide) rfl) ?_
            refine g_do 67 (by rfl) (congrArg Value.bool hb71) ?_
            refine s_load1 (v := .int _ _) Try.underlying3 rfl rfl (cellB ((hO69.perm (pmbA (pmbA (pmbC (pmbC pmb0))))).get (i := 0) rfl) rfl rfl) ?_
            refine g_do 67 (by rfl) (congrArg Value.bool hb71) ?_
            refine sv (r_fieldAddr Try.underlying37 rfl I3 (by decide) rfl) ?_
            refine g_do 67 (by rfl) (congrArg Value.bool hb71) ?_
            refine s_load1 (v := .int _ _) Try.underlying3 rfl rfl (cellB ((hO69.perm (pmbA (pmbA (pmbC pmb0)))).get (i := 0) rfl) rfl rfl) ?_
            refine g_do 67 (by rfl) (congrArg Value.bool hb71) ?_
            refine c_eql rfl rfl (fun h72 => ?_) (fun h72 => ?_)
            · replace h := iT h72 h
              refine g_do 65 (by rfl) rfl ?_
              refine sv (r_pickT (v := .bool true) (by exact (congrArg Value.bool hb71)) rfl) ?_
              refine g_do 65 (by rfl) rfl ?_
              refine sv (r_move (v := .bool true) rfl) ?_
              refine g_skip 74 (by rfl) rfl (by rfl) ?_
              refine g_skip 74 (by rfl) rfl (by rfl) ?_
              refine g_skip 74 (by rfl) rfl (by rfl) ?_
              refine g_skipU 77 (by rfl) rfl ?_
              refine g_skipU 77 (by rfl) rfl ?_
              refine g_skipU 77 (by rfl) rfl ?_
              refine g_skip 74 (by rfl) rfl (by rfl) ?_
              refine g_do 65 (by rfl) rfl ?_
              refine sv (r_pickT (v := .bool true) rfl rfl) ?_
              refine sv (r_pickT (v := .bool true) rfl rfl) ?_
              refine sv (r_assign (v := .bool true) rfl) ?_
              refine s_nil ?_
              refine c_next ?_
              refine c_ret ?_
              refine e_1 (v := .bool true) Try.results5 rfl ?_
              have hR72 := (hS21_0.drop hO69).2.2
              obtain ⟨hO72, e72⟩ := hO69.dropS
              have hR73 := (hS21_1.drop hO72).2.2
              obtain ⟨hO73, e73⟩ := hO72.dropS
              obtain ⟨hO74, e74⟩ := hO73.drop1
              obtain ⟨hO75, e75⟩ := hO74.drop1
              obtain ⟨hO76, e76⟩ := hO75.drop1
              rw [← Option.some.inj h]
              exact ⟨rfl, hO76, (e3.trans (e6.trans (e12.trans (e24.trans (e36.trans (e37.trans (e40.trans (e44.trans (e68.trans (e69.trans (e72.trans (e73.trans (e74.trans (e75.trans e76))))))))))))))⟩
            replace h := iF h72 h
            refine g_do 65 (by rfl) rfl ?_
            refine sv (r_pickT (v := .bool false) (by exact (congrArg Value.bool hb71)) rfl) ?_
            refine g_do 65 (by rfl) rfl ?_
            refine sv (r_move (v := .bool false) rfl) ?_
            refine g_do 74 (by rfl) rfl ?_
            refine sv (r_move (v := .bool _) rfl) ?_
            refine g_do 74 (by rfl) rfl ?_
            refine sv (r_not (b := xc4_t7) rfl) ?_
            refine g_do 74 (by rfl) rfl ?_
            refine sv (r_move (v := .bool _) rfl) ?_
            refine g_skip 77 (by rfl) (congrArg Value.bool (nnt hb71)) (by rfl) ?_
            refine g_skip 77 (by rfl) (congrArg Value.bool (nnt hb71)) (by rfl) ?_
            refine g_skip 77 (by rfl) (congrArg Value.bool (nnt hb71)) (by rfl) ?_
            refine g_do 74 (by rfl) rfl ?_
            refine sv (r_pickF (v := .bool false) (by exact (congrArg Value.bool (nnt hb71))) rfl) ?_
            refine g_do 65 (by rfl) rfl ?_
            refine sv (r_pickF (v := .bool false) rfl rfl) ?_
            refine sv (r_pickT (v := .bool false) rfl rfl) ?_
            refine sv (r_assign (v := .bool false) rfl) ?_
            refine s_nil ?_
            refine c_next ?_
            refine c_ret ?_
            refine e_1 (v := .bool false) Try.results5 rfl ?_
            have hR77 := (hS21_0.drop hO69).2.2
            obtain ⟨hO77, e77⟩ := hO69.dropS
            have hR78 := (hS21_1.drop hO77).2.2
            obtain ⟨hO78, e78⟩ := hO77.dropS
            obtain ⟨hO79, e79⟩ := hO78.drop1
            obtain ⟨hO80, e80⟩ := hO79.drop1
            obtain ⟨hO81, e81⟩ := hO80.drop1
            rw [← Option.some.inj h]
            exact ⟨rfl, hO81, (e3.trans (e6.trans (e12.trans (e24.trans (e36.trans (e37.trans (e40.trans (e44.trans (e68.trans (e69.trans (e77.trans (e78.trans (e79.trans (e80.trans e81))))))))))))))⟩
          replace h := iF (nt hb71) h
          refine g_skip 67 (by rfl) (congrArg Value.bool hb71) (by rfl) ?_
          refine g_skip 67 (by rfl) (congrArg Value.bool hb71) (by rfl) ?_
          refine g_skip 67 (by rfl) (congrArg Value.bool hb71) (by rfl) ?_
          refine g_skip 67 (by rfl) (congrArg Value.bool hb71) (by rfl) ?_
          refine g_skip 67 (by rfl) (congrArg Value.bool hb71) (by rfl) ?_
          refine g_do 65 (by rfl) rfl ?_
          refine sv (r_pickF (v := .bool false) (by exact (congrArg Value.bool hb71)) rfl) ?_
          refine g_do 65 (by rfl) rfl ?_
          refine sv (r_move (v := .bool false) rfl) ?_
          refine g_do 74 (by rfl) rfl ?_
          refine sv (r_move (v := .bool _) rfl) ?_
          refine g_do 74 (by rfl) rfl ?_
          refine sv (r_not (b := xc4_t7) rfl) ?_
          refine g_do 74 (by rfl) rfl ?_
          refine sv (r_move (v := .bool _) rfl) ?_
          refine g_do 77 (by rfl) (congrArg Value.bool (nnf hb71)) ?_
          refine sv (r_fieldAddr Try.underlying27 rfl I3 (by decide) rfl) ?_
          refine g_do 77 (by rfl) (congrArg Value.bool (nnf hb71)) ?_
          refine s_load1 (v := .int _ _) Try.underlying3 rfl rfl (cellB ((hO69.perm (pmbA (pmbA (pmbC (pmbC pmb0))))).get (i := 0) rfl) rfl rfl) ?_
          refine g_do 77 (by rfl) (congrArg Value.bool (nnf hb71)) ?_
          refine c_eql rfl rfl (fun h80 => ?_) (fun h80 => ?_)
          · replace h := iT h80 h
            refine g_do 74 (by rfl) rfl ?_
            refine sv (r_pickT (v := .bool true) (by exact (congrArg Value.bool (nnf hb71))) rfl) ?_
            refine g_do 65 (by rfl) rfl ?_
            refine sv (r_pickF (v := .bool true) rfl rfl) ?_
            refine sv (r_pickT (v := .bool true) rfl rfl) ?_
            refine sv (r_assign (v := .bool true) rfl) ?_
            refine s_nil ?_
            refine c_next ?_
            refine c_ret ?_
            refine e_1 (v := .bool true) Try.results5 rfl ?_
            have hR82 := (hS21_0.drop hO69).2.2
            obtain ⟨hO82, e82⟩ := hO69.dropS
            have hR83 := (hS21_1.drop hO82).2.2
            obtain ⟨hO83, e83⟩ := hO82.dropS
            obtain ⟨hO84, e84⟩ := hO83.drop1
            obtain ⟨hO85, e85⟩ := hO84.drop1
            obtain ⟨hO86, e86⟩ := hO85.drop1
            rw [← Option.some.inj h]
            exact ⟨rfl, hO86, (e3.trans (e6.trans (e12.trans (e24.trans (e36.trans (e37.trans (e40.trans (e44.trans (e68.trans (e69.trans (e82.trans (e83.trans (e84.trans (e85.trans e86))))))))))))))⟩
          replace h := iF h80 h
          refine g_do 74 (by rfl) rfl ?_
          refine sv (r_pickT (v := .bool false) (by exact (congrArg Value.bool (nnf hb71))) rfl) ?_
          refine g_do 65 (by rfl) rfl ?_
          refine sv (r_pickF (v := .bool false) rfl rfl) ?_
          refine sv (r_pickT (v := .bool false) rfl rfl) ?_
          refine sv (r_assign (v := .bool false) rfl) ?_
          refine s_nil ?_
          refine c_next ?_
          refine c_ret ?_
          refine e_1 (v := .bool false) Try.results5 rfl ?_
          have hR87 := (hS21_0.drop hO69).2.2
          obtain ⟨hO87, e87⟩ := hO69.dropS
          have hR88 := (hS21_1.drop hO87).2.2
          obtain ⟨hO88, e88⟩ := hO87.dropS
          obtain ⟨hO89, e89⟩ := hO88.drop1
          obtain ⟨hO90, e90⟩ := hO89.drop1
          obtain ⟨hO91, e91⟩ := hO90.drop1
          rw [← Option.some.inj h]
          exact ⟨rfl, hO91, (e3.trans (e6.trans (e12.trans (e24.trans (e36.trans (e37.trans (e40.trans (e44.trans (e68.trans (e69.trans (e87.trans (e88.trans (e89.trans (e90.trans e91))))))))))))))⟩
        replace h := iF h63 h
        refine sv (r_pickT (v := .bool false) (by exact (congrArg Value.bool hb70)) rfl) ?_
        refine sv (r_move (v := .bool false) rfl) ?_
        refine g_skip 65 (by rfl) rfl (by rfl) ?_
        refine g_skip 65 (by rfl) rfl (by rfl) ?_
        refine g_skipU 67 (by rfl) rfl ?_
        refine g_skipU 67 (by rfl) rfl ?_
        refine g_skipU 67 (by rfl) rfl ?_
        refine g_skipU 67 (by rfl) rfl ?_
        refine g_skipU 67 (by rfl) rfl ?_
        refine g_skip 65 (by rfl) rfl (by rfl) ?_
        refine g_skip 65 (by rfl) rfl (by rfl) ?_
        refine g_skipU 74 (by rfl) rfl ?_
        refine g_skipU 74 (by rfl) rfl ?_
        refine g_skipU 74 (by rfl) rfl ?_
        refine g_skipU 77 (by rfl) rfl ?_
        refine g_skipU 77 (by rfl) rfl ?_
        refine g_skipU 77 (by rfl) rfl ?_
        refine g_skipU 74 (by rfl) rfl ?_
        refine g_skip 65 (by rfl) rfl (by rfl) ?_
        refine sv (r_pickF (v := .bool false) rfl rfl) ?_
        refine sv (r_assign (v := .bool false) rfl) ?_
        refine s_nil ?_
        refine c_next ?_
        refine c_ret ?_
        refine e_1 (v := .bool false) Try.results5 rfl ?_
        have hR92 := (hS21_0.drop hO69).2.2
        obtain ⟨hO92, e92⟩ := hO69.dropS
        have hR93 := (hS21_1.drop hO92).2.2
        obtain ⟨hO93, e93⟩ := hO92.dropS
        obtain ⟨hO94, e94⟩ := hO93.drop1
        obtain ⟨hO95, e95⟩ := hO94.drop1
        obtain ⟨hO96, e96⟩ := hO95.drop1
        rw [← Option.some.inj h]
        exact ⟨rfl, hO96, (e3.trans (e6.trans (e12.trans (e24.trans (e36.trans (e37.trans (e40.trans (e44.trans (e68.trans (e69.trans (e92.trans (e93.trans (e94.trans (e95.trans e96))))))))))))))⟩
      replace h := iF (nt hb70) h
      refine g_skip 59 (by rfl) (congrArg Value.bool hb70) (by rfl) ?_
      refine g_skip 59 (by rfl) (congrArg Value.bool hb70) (by rfl) ?_
      refine g_skip 59 (by rfl) (congrArg Value.bool hb70) (by rfl) ?_
      refine g_skip 59 (by rfl) (congrArg Value.bool hb70) (by rfl) ?_
      refine sv (r_pickF (v := .bool false) (by exact (congrArg Value.bool hb70)) rfl) ?_
      refine sv (r_move (v := .bool false) rfl) ?_
      refine g_skip 65 (by rfl) rfl (by rfl) ?_
      refine g_skip 65 (by rfl) rfl (by rfl) ?_
      refine g_skipU 67 (by rfl) rfl ?_
      refine g_skipU 67 (by rfl) rfl ?_
      refine g_skipU 67 (by rfl) rfl ?_
      refine g_skipU 67 (by rfl) rfl ?_
      refine g_skipU 67 (by rfl) rfl ?_
      refine g_skip 65 (by rfl) rfl (by rfl) ?_
      refine g_skip 65 (by rfl) rfl (by rfl) ?_
      refine g_skipU 74 (by rfl) rfl ?_
      refine g_skipU 74 (by rfl) rfl ?_
      refine g_skipU 74 (by rfl) rfl ?_
      refine g_skipU 77 (by rfl) rfl ?_
      refine g_skipU 77 (by rfl) rfl ?_
      refine g_skipU 77 (by rfl) rfl ?_
      refine g_skipU 74 (by rfl) rfl ?_
      refine g_skip 65 (by rfl) rfl (by rfl) ?_
      refine sv (r_pickF (v := .bool false) rfl rfl) ?_
      refine sv (r_assign (v := .bool false) rfl) ?_
      refine s_nil ?_
      refine c_next ?_
      refine c_ret ?_
      refine e_1 (v := .bool false) Try.results5 rfl ?_
      have hR97 := (hS21_0.drop hO69).2.2
      obtain ⟨hO97, e97⟩ := hO69.dropS
      have hR98 := (hS21_1.drop hO97).2.2
      obtain ⟨hO98, e98⟩ := hO97.dropS
      obtain ⟨hO99, e99⟩ := hO98.drop1
      obtain ⟨hO100, e100⟩ := hO99.drop1
      obtain ⟨hO101, e101⟩ := hO100.drop1
      rw [← Option.some.inj h]
      exact ⟨rfl, hO101, (e3.trans (e6.trans (e12.trans (e24.trans (e36.trans (e37.trans (e40.trans (e44.trans (e68.trans (e69.trans (e97.trans (e98.trans (e99.trans (e100.trans e101))))))))))))))⟩
    replace h := iF h53 h
    refine sv (r_move (v := .bool false) rfl) ?_
    refine g_skip 54 (by rfl) rfl (by rfl) ?_
    refine g_skip 54 (by rfl) rfl (by rfl) ?_
    refine g_skip 54 (by rfl) rfl (by rfl) ?_
    refine sv (r_pickF (v := .bool false) rfl rfl) ?_
    refine sv (r_move (v := .bool false) rfl) ?_
    refine g_skip 59 (by rfl) rfl (by rfl) ?_
    refine g_skip 59 (by rfl) rfl (by rfl) ?_
    refine g_skip 59 (by rfl) rfl (by rfl) ?_
    refine g_skip 59 (by rfl) rfl (by rfl) ?_
    refine sv (r_pickF (v := .bool false) rfl rfl) ?_
    refine sv (r_move (v := .bool false) rfl) ?_
    refine g_skip 65 (by rfl) rfl (by rfl) ?_
    refine g_skip 65 (by rfl) rfl (by rfl) ?_
    refine g_skipU 67 (by rfl) rfl ?_
    refine g_skipU 67 (by rfl) rfl ?_
    refine g_skipU 67 (by rfl) rfl ?_
    refine g_skipU 67 (by rfl) rfl ?_
    refine g_skipU 67 (by rfl) rfl ?_
    refine g_skip 65 (by rfl) rfl (by rfl) ?_
    refine g_skip 65 (by rfl) rfl (by rfl) ?_
    refine g_skipU 74 (by rfl) rfl ?_
    refine g_skipU 74 (by rfl) rfl ?_
    refine g_skipU 74 (by rfl) rfl ?_
    refine g_skipU 77 (by rfl) rfl ?_
    refine g_skipU 77 (by rfl) rfl ?_
    refine g_skipU 77 (by rfl) rfl ?_
    refine g_skipU 74 (by rfl) rfl ?_
    refine g_skip 65 (by rfl) rfl (by rfl) ?_
    refine sv (r_pickF (v := .bool false) rfl rfl) ?_
    refine sv (r_assign (v := .bool false) rfl) ?_
    refine s_nil ?_
    refine c_next ?_
    refine c_ret ?_
    refine e_1 (v := .bool false) Try.results5 rfl ?_
    have hR102 := (hS21_0.drop hO68).2.2
    obtain ⟨hO102, e102⟩ := hO68.dropS
    have hR103 := (hS21_1.drop hO102).2.2
    obtain ⟨hO103, e103⟩ := hO102.dropS
    obtain ⟨hO104, e104⟩ := hO103.drop1
    obtain ⟨hO105, e105⟩ := hO104.drop1
    obtain ⟨hO106, e106⟩ := hO105.drop1
    rw [← Option.some.inj h]
    exact ⟨rfl, hO106, (e3.trans (e6.trans (e12.trans (e24.trans (e36.trans (e37.trans (e40.trans (e44.trans (e68.trans (e102.trans (e103.trans (e104.trans (e105.trans e106)))))))))))))⟩
  replace h := iF (nt hb13) h
  refine c_condT (congrArg Value.bool (nnf hb13)) ?_
  refine c_seq ?_
  refine c_reg ?_
  refine sv (r_assign (v := .bool false) rfl) ?_
  refine s_nil ?_
  refine c_next ?_
  refine c_ret ?_
  refine r_then ?_
  refine e_1 (v := .bool false) Try.results5 rfl ?_
  obtain ⟨hO107, e107⟩ := hO12.drop1
  obtain ⟨hO108, e108⟩ := hO107.drop1
  rw [← Option.some.inj h]
  exact ⟨rfl, hO108, (e3.trans (e6.trans (e12.trans (e107.trans e108))))⟩
end Go.Proofs.Ytbigpfenlmfhgaa

