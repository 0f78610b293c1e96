/- A part of the proof that the row of the law holds of the program as translated: lemmas and contracts of its functions. -/
import Derived.Test.YtbigpfenlmfhgaaX27s0
import Derived.Test.YtbigpfenlmfhgaaProg
import Derived.Test.YtbigpfenlmfhgaaAvI
import Derived.Test.YtbigpfenlmfhgaaX27p
set_option linter.unusedVariables false
set_option linter.unusedSimpArgs false
set_option maxRecDepth 10000
namespace Go.Proofs.Ytbigpfenlmfhgaa
open Go.GV Go.AV Go.RowKit
attribute [local irreducible] wpList
theorem c_batonlaw27_Few (x0 : T_claim_State) (aP0 : Option Addr) (mP0 cP0 : Nat) (aP1 : Option Addr) (mP1 cP1 : Nat)  (r : Bool) (h : F_batonlaw27_Few x0 = some r) (w : World) (L : Hp) (hm0p : x0.Roster.length = mP0) (hc0p : mP0 ≤ cP0) (hR0p : Rd w L aP0 (fl e_roster_Device x0.Roster)) (hm1p : x0.Tickets.length = mP1) (hc1p : mP1 ≤ cP1) (hR1p : Rd w L aP1 (fl e_ticket_Ticket x0.Tickets)) (hO : Own w L) :
    Calls Try.prog 15 #[(.agg #[(.int .i64 x0.Epoch), (.int .i64 x0.Owner), (.int .i64 x0.Next), (.slice aP0 mP0 cP0), (.slice aP1 mP1 cP1)])] w fun en w' => en = .returned (.bool r) ∧ Own w' L ∧ Ext w L w' L := by
  unfold F_batonlaw27_Few at h
  refine enter (n := 13) [(.agg #[(.int .i64 x0.Epoch), (.int .i64 x0.Owner), (.int .i64 x0.Next), (.slice aP0 mP0 cP0), (.slice aP1 mP1 cP1)])] Try.func15 rfl rfl (Nat.le_of_ble_eq_true rfl) ?_
  refine c_seq ?_
  refine c_reg ?_
  refine s_box (v := (.agg #[(.int .i64 x0.Epoch), (.int .i64 x0.Owner), (.int .i64 x0.Next), (.slice aP0 mP0 cP0), (.slice aP1 mP1 cP1)])) rfl hO ?_
  intro b1 w2 hz1 hl1 hO2 e2
  have hO3 : Own w2 ((b1, .cells #[(.int .i64 x0.Epoch), (.int .i64 x0.Owner), (.int .i64 x0.Next), (.slice aP0 mP0 cP0), (.slice aP1 mP1 cP1)] 27 (0, 0)) :: L) := hO2
  refine sv (r_assign (v := .bool false) rfl) ?_
  refine s_nil ?_
  refine c_next ?_
  refine c_seq ?_
  refine c_reg ?_
  refine sv (r_fieldAddr Try.underlying27 rfl I24 (by decide) rfl) ?_
  refine s_load1 (v := .slice _ _ _) Try.underlying24 rfl rfl (cellB (hO3.get (i := 0) rfl) rfl rfl) ?_
  refine sv (r_lenL (xs := x0.Roster) Try.underlying24 rfl hm0p) ?_
  refine c_leq rfl rfl (fun h6 => ?_) (fun h6 => ?_)
  · replace h := iT h6 h
    refine sv (r_move (v := .bool true) rfl) ?_
    refine g_do 7 (by rfl) rfl ?_
    refine sv (r_fieldAddr Try.underlying27 rfl I25 (by decide) rfl) ?_
    refine g_do 7 (by rfl) rfl ?_
    refine s_load1 (v := .slice _ _ _) Try.underlying25 rfl rfl (cellB (hO3.get (i := 0) rfl) rfl rfl) ?_
    refine g_do 7 (by rfl) rfl ?_
    refine sv (r_lenL (xs := x0.Tickets) Try.underlying25 rfl hm1p) ?_
    refine g_do 7 (by rfl) rfl ?_
    refine c_leq rfl rfl (fun h11 => ?_) (fun h11 => ?_)
    · replace h := iT h11 h
      refine sv (r_pickT (v := .bool true) rfl rfl) ?_
      refine sv (r_assign (v := .bool true) rfl) ?_
      refine s_nil ?_
      refine c_next ?_
      refine c_ret ?_
      refine e_1 (v := .bool true) Try.results15 rfl ?_
      obtain ⟨hO5, e5⟩ := hO3.drop1
      rw [← Option.some.inj h]
      exact ⟨rfl, hO5, (e2.trans e5)⟩
    replace h := iF (Int.not_le.2 h11) h
    refine sv (r_pickT (v := .bool false) rfl rfl) ?_
    refine sv (r_assign (v := .bool false) rfl) ?_
    refine s_nil ?_
    refine c_next ?_
    refine c_ret ?_
    refine e_1 (v := .bool false) Try.results15 rfl ?_
    obtain ⟨hO6, e6⟩ := hO3.drop1
    rw [← Option.some.inj h]
    exact ⟨rfl, hO6, (e2.trans e6)⟩
  replace h := iF (Int.not_le.2 h6) h
  refine sv (r_move (v := .bool false) rfl) ?_
  refine g_skip 7 (by rfl) rfl (by rfl) ?_
  refine g_skip 7 (by rfl) rfl (by rfl) ?_
  refine g_skip 7 (by rfl) rfl (by rfl) ?_
  refine g_skip 7 (by rfl) rfl (by rfl) ?_
  refine sv (r_pickF (v := .bool false) rfl rfl) ?_
  refine sv (r_assign (v := .bool false) rfl) ?_
  refine s_nil ?_
  refine c_next ?_
  refine c_ret ?_
  refine e_1 (v := .bool false) Try.results15 rfl ?_
  obtain ⟨hO7, e7⟩ := hO3.drop1
  rw [← Option.some.inj h]
  exact ⟨rfl, hO7, (e2.trans e7)⟩
theorem c_roster_Right (x0 : (List T_roster_Device)) (aP0 : Option Addr) (mP0 cP0 : Nat)  (r : Bool) (h : F_roster_Right x0 = some r) (w : World) (L : Hp) (hm0p : x0.length = mP0) (hc0p : mP0 ≤ cP0) (hR0p : Rd w L aP0 (fl e_roster_Device x0)) (hO : Own w L) :
    Calls Try.prog 38 #[(.slice aP0 mP0 cP0)] w fun en w' => en = .returned (.bool r) ∧ Own w' L ∧ Ext w L w' L := by
  unfold F_roster_Right at h
  refine enter (n := 56) [(.slice aP0 mP0 cP0)] Try.func38 rfl rfl (Nat.le_of_ble_eq_true rfl) ?_
  refine c_seq ?_
  refine c_reg ?_
  refine sv (r_assign (v := .bool false) rfl) ?_
  refine s_nil ?_
  refine c_next ?_
  refine c_seq ?_
  refine c_seq ?_
  refine c_reg ?_
  refine sv (r_move (v := .slice _ _ _) rfl) ?_
  refine sv (r_lenL (xs := x0) Try.underlying24 rfl hm0p) ?_
  refine sv (r_move (v := .int _ _) rfl) ?_
  refine s_nil ?_
  refine c_next ?_
  refine c_block ?_
  obtain ⟨kl19, hkl19⟩ := loop_iff.1 h
  clear h
  refine c_loopL hO (fun Lc f0 m g wl => ∃ (xl1_t7 : Int), (iterK (roster_Right_l1 x0) m xl1_t7 = some r) ∧ g 0 = (.slice aP0 mP0 cP0) ∧ g 5 = (.slice aP0 mP0 cP0) ∧ g 6 = (.int .i64 ((x0.length : Int))) ∧ g 7 = (.int .i64 xl1_t7) ∧ Own wl L ∧ Ext w Lc wl L) kl19 ?_ ?_
  · skip
    exact ⟨0, hkl19, rfl, rfl, rfl, rfl, hO, (Ext.refl _ _)⟩
  clear hkl19
  intro mm19 gg19 w19 hI19
  obtain ⟨xl1_t7, hkl19, hsl1_0, hsl1_5, hsl1_6, hsl1_7, hO19, e19⟩ := hI19
  obtain ⟨kl19, yl19, rfl, h, hyl19⟩ := iterE hkl19
  clear hkl19
  obtain ⟨qq19, rfl⟩ := fr4 hsl1_0 hsl1_5 hsl1_6 hsl1_7
  clear hsl1_0 hsl1_5 hsl1_6 hsl1_7
  have hR0p := (hR0p.ext e19)
  obtain ⟨oc20, G20, hG20, h, hr20⟩ := bindG h
  refine c_cutL hO19 (fun Lc f0 g w' => ∃ (xc2_t8 : Bool), (G20 xc2_t8 = some yl19) ∧ g 0 = (.slice aP0 mP0 cP0) ∧ g 5 = (.slice aP0 mP0 cP0) ∧ g 6 = (.int .i64 ((x0.length : Int))) ∧ g 7 = (.int .i64 xl1_t7) ∧ g 8 = (.bool xc2_t8) ∧ Own w' L ∧ Ext w19 Lc w' L) ?_ ?_
  · skip
    refine c_reg ?_
    refine c_lss rfl rfl (fun h8 => ?_) (fun h8 => ?_)
    · replace h := iT h8 h
      refine s_nil ?_
      refine c_next ?_
      rw [← Option.some.inj h] at hr20
      exact ⟨_, rfl, true, hr20, rfl, rfl, rfl, rfl, rfl, hO19, (Ext.refl _ _)⟩
    replace h := iF (Int.not_lt.2 h8) h
    refine s_nil ?_
    refine c_next ?_
    rw [← Option.some.inj h] at hr20
    exact ⟨_, rfl, false, hr20, rfl, rfl, rfl, rfl, rfl, hO19, (Ext.refl _ _)⟩
  intro gg20 w20 hI20
  clear h hr20
  obtain ⟨xc2_t8, h, hsc2_0, hsc2_5, hsc2_6, hsc2_7, hsc2_8, hO20, e20⟩ := hI20
  replace h := hG_ hG20 h; clear hG20
  obtain ⟨qq20, rfl⟩ := fr5 hsc2_0 hsc2_5 hsc2_6 hsc2_7 hsc2_8
  clear hsc2_0 hsc2_5 hsc2_6 hsc2_7 hsc2_8
  refine c_seq ?_
  rcases Bool.eq_false_or_eq_true (xc2_t8) with hb22 | hb22
  · replace h := iT hb22 h
    refine c_condT (congrArg Value.bool hb22) ?_
    refine c_skip ?_
    refine c_next ?_
    refine c_seq ?_
    refine c_block ?_
    refine c_seq ?_
    refine c_reg ?_
    refine sv (r_move (v := .int _ _) rfl) ?_
    obtain ⟨y10, hy10, h⟩ := bindE h
    refine a_idx (e := e_roster_Device) (xs := x0) (i := xl1_t7) Try.underlying24 I56 rfl rfl (Rd.cs (hR0p.ext e20)) e_roster_Device_len (by decide) hm0p hy10 ?_
    intro p10 hp10
    refine s_loadN (cs := [(.int .i64 y10.Id), (.int .i64 y10.Times), (.bool y10.Gone), (.int .i64 y10.Last)]) Try.underlying56 rfl I56 rfl rfl hp10 ?_
    refine s_alloc I56 hO20 ?_
    intro b4 w25 hz4 hl4 hO25 e25
    have hO26 : Own w25 ((b4, .cells #[(.int .i64 0), (.int .i64 0), (.bool false), (.int .i64 0)] 56 (0, 0)) :: L) := hO25
    refine sv (r_assign (v := .int _ _) rfl) ?_
    refine s_storeN (vs := #[(.int .i64 y10.Id), (.int .i64 y10.Times), (.bool y10.Gone), (.int .i64 y10.Last)]) I56 rfl rfl rfl hO26 (i := 0) rfl (Nat.le_of_ble_eq_true rfl) (List.all_eq_true.1 rfl) ?_
    intro w28 hO28 e28
    have hO29 : Own w28 ((b4, .cells #[(.int .i64 y10.Id), (.int .i64 y10.Times), (.bool y10.Gone), (.int .i64 y10.Last)] 56 (0, 0)) :: L) := hO28
    refine s_nil ?_
    refine c_next ?_
    refine c_seq ?_
    have hR0p := (hR0p.ext (e20.trans (e25.trans e28)))
    refine d_startL hO29 hO29 43 (by kernel_rfl) (pk_then (pk_block (pk_then (pk_then (pk_block (pk_then pk_body)))))) ?_
    intro hP32 wd32 hK32 hO31 e31
    refine dT (i := 0) (listed' := #[I_,O_,O_,O_,O_,O_,O_,O_,O_,O_,O_,O_,O_,O_,O_,O_,O_,O_,O_,O_,O_,O_,O_,O_,O_,O_,O_,O_,O_,O_,O_,O_,O_,O_,O_,O_,O_,O_,O_,O_,O_,O_,O_]) rfl hP32 hK32 (fun wS hS => (r_fieldAddr Try.underlying56 rfl I3 (by decide) rfl)) ?_
    refine dT (i := 1) (listed' := #[I_,I_,O_,O_,O_,O_,O_,O_,O_,O_,O_,O_,O_,O_,O_,O_,O_,O_,O_,O_,O_,O_,O_,O_,O_,O_,O_,O_,O_,O_,O_,O_,O_,O_,O_,O_,O_,O_,O_,O_,O_,O_,O_]) rfl hP32 hK32 (fun wS hS => (r_load1 (v := .int _ _) Try.underlying3 rfl rfl (cellB (hS.own.get (i := 0) rfl) rfl rfl))) ?_
    refine dt_lss (i := 2) (listed' := #[I_,I_,I_,O_,O_,O_,O_,O_,O_,O_,O_,O_,O_,O_,O_,O_,O_,O_,O_,O_,O_,O_,O_,O_,O_,O_,O_,O_,O_,O_,O_,O_,O_,O_,O_,O_,O_,O_,O_,O_,O_,O_,O_]) (by rfl) (by kernel_rfl) (by rfl) hP32.u rfl hK32 rfl rfl (fun h14 => ?_) (fun h14 => ?_)
    · replace h := iT h14 h
      refine dT (i := 3) (listed' := #[I_,I_,I_,I_,O_,O_,O_,O_,O_,O_,O_,O_,O_,O_,O_,O_,O_,O_,O_,O_,O_,O_,O_,O_,O_,O_,O_,O_,O_,O_,O_,O_,O_,O_,O_,O_,O_,O_,O_,O_,O_,O_,O_]) rfl hP32 hK32 (fun wS hS => (r_move (v := .bool true) rfl)) ?_
      refine dS (i := 4) (listed' := #[I_,I_,I_,I_,I_,O_,O_,O_,O_,O_,O_,O_,O_,O_,O_,O_,O_,O_,O_,O_,O_,O_,O_,O_,O_,O_,O_,O_,O_,O_,O_,O_,O_,O_,O_,O_,O_,O_,O_,O_,O_,O_,O_]) rfl 15 hP32 rfl hK32 ?_
      refine dS (i := 5) (listed' := #[I_,I_,I_,I_,I_,I_,O_,O_,O_,O_,O_,O_,O_,O_,O_,O_,O_,O_,O_,O_,O_,O_,O_,O_,O_,O_,O_,O_,O_,O_,O_,O_,O_,O_,O_,O_,O_,O_,O_,O_,O_,O_,O_]) rfl 15 hP32 rfl hK32 ?_
      refine dS (i := 6) (listed' := #[I_,I_,I_,I_,I_,I_,I_,O_,O_,O_,O_,O_,O_,O_,O_,O_,O_,O_,O_,O_,O_,O_,O_,O_,O_,O_,O_,O_,O_,O_,O_,O_,O_,O_,O_,O_,O_,O_,O_,O_,O_,O_,O_]) rfl 15 hP32 rfl hK32 ?_
      refine dT (i := 7) (listed' := #[I_,I_,I_,I_,I_,I_,I_,I_,O_,O_,O_,O_,O_,O_,O_,O_,O_,O_,O_,O_,O_,O_,O_,O_,O_,O_,O_,O_,O_,O_,O_,O_,O_,O_,O_,O_,O_,O_,O_,O_,O_,O_,O_]) rfl hP32 hK32 (fun wS hS => (r_pickT (v := .bool true) rfl rfl)) ?_
      refine dT (i := 8) (listed' := #[I_,I_,I_,I_,I_,I_,I_,I_,I_,O_,O_,O_,O_,O_,O_,O_,O_,O_,O_,O_,O_,O_,O_,O_,O_,O_,O_,O_,O_,O_,O_,O_,O_,O_,O_,O_,O_,O_,O_,O_,O_,O_,O_]) rfl hP32 hK32 (fun wS hS => (r_move (v := .bool true) rfl)) ?_
      refine dS (i := 9) (listed' := #[I_,I_,I_,I_,I_,I_,I_,I_,I_,I_,O_,O_,O_,O_,O_,O_,O_,O_,O_,O_,O_,O_,O_,O_,O_,O_,O_,O_,O_,O_,O_,O_,O_,O_,O_,O_,O_,O_,O_,O_,O_,O_,O_]) rfl 20 hP32 rfl hK32 ?_
      refine dS (i := 10) (listed' := #[I_,I_,I_,I_,I_,I_,I_,I_,I_,I_,I_,O_,O_,O_,O_,O_,O_,O_,O_,O_,O_,O_,O_,O_,O_,O_,O_,O_,O_,O_,O_,O_,O_,O_,O_,O_,O_,O_,O_,O_,O_,O_,O_]) rfl 20 hP32 rfl hK32 ?_
      refine dS (i := 11) (listed' := #[I_,I_,I_,I_,I_,I_,I_,I_,I_,I_,I_,I_,O_,O_,O_,O_,O_,O_,O_,O_,O_,O_,O_,O_,O_,O_,O_,O_,O_,O_,O_,O_,O_,O_,O_,O_,O_,O_,O_,O_,O_,O_,O_]) rfl 20 hP32 rfl hK32 ?_
      refine dU (i := 12) (listed' := #[I_,I_,I_,I_,I_,I_,I_,I_,I_,I_,I_,I_,I_,O_,O_,O_,O_,O_,O_,O_,O_,O_,O_,O_,O_,O_,O_,O_,O_,O_,O_,O_,O_,O_,O_,O_,O_,O_,O_,O_,O_,O_,O_]) rfl 23 hP32 hK32 ?_
      refine dU (i := 13) (listed' := #[I_,I_,I_,I_,I_,I_,I_,I_,I_,I_,I_,I_,I_,I_,O_,O_,O_,O_,O_,O_,O_,O_,O_,O_,O_,O_,O_,O_,O_,O_,O_,O_,O_,O_,O_,O_,O_,O_,O_,O_,O_,O_,O_]) rfl 23 hP32 hK32 ?_
      refine dU (i := 14) (listed' := #[I_,I_,I_,I_,I_,I_,I_,I_,I_,I_,I_,I_,I_,I_,I_,O_,O_,O_,O_,O_,O_,O_,O_,O_,O_,O_,O_,O_,O_,O_,O_,O_,O_,O_,O_,O_,O_,O_,O_,O_,O_,O_,O_]) rfl 23 hP32 hK32 ?_
      refine dU (i := 15) (listed' := #[I_,I_,I_,I_,I_,I_,I_,I_,I_,I_,I_,I_,I_,I_,I_,I_,O_,O_,O_,O_,O_,O_,O_,O_,O_,O_,O_,O_,O_,O_,O_,O_,O_,O_,O_,O_,O_,O_,O_,O_,O_,O_,O_]) rfl 23 hP32 hK32 ?_
      refine dU (i := 16) (listed' := #[I_,I_,I_,I_,I_,I_,I_,I_,I_,I_,I_,I_,I_,I_,I_,I_,I_,O_,O_,O_,O_,O_,O_,O_,O_,O_,O_,O_,O_,O_,O_,O_,O_,O_,O_,O_,O_,O_,O_,O_,O_,O_,O_]) rfl 23 hP32 hK32 ?_
      refine dU (i := 17) (listed' := #[I_,I_,I_,I_,I_,I_,I_,I_,I_,I_,I_,I_,I_,I_,I_,I_,I_,I_,O_,O_,O_,O_,O_,O_,O_,O_,O_,O_,O_,O_,O_,O_,O_,O_,O_,O_,O_,O_,O_,O_,O_,O_,O_]) rfl 23 hP32 hK32 ?_
      refine dU (i := 18) (listed' := #[I_,I_,I_,I_,I_,I_,I_,I_,I_,I_,I_,I_,I_,I_,I_,I_,I_,I_,I_,O_,O_,O_,O_,O_,O_,O_,O_,O_,O_,O_,O_,O_,O_,O_,O_,O_,O_,O_,O_,O_,O_,O_,O_]) rfl 23 hP32 hK32 ?_
      refine dU (i := 19) (listed' := #[I_,I_,I_,I_,I_,I_,I_,I_,I_,I_,I_,I_,I_,I_,I_,I_,I_,I_,I_,I_,O_,O_,O_,O_,O_,O_,O_,O_,O_,O_,O_,O_,O_,O_,O_,O_,O_,O_,O_,O_,O_,O_,O_]) rfl 23 hP32 hK32 ?_
      refine dU (i := 20) (listed' := #[I_,I_,I_,I_,I_,I_,I_,I_,I_,I_,I_,I_,I_,I_,I_,I_,I_,I_,I_,I_,I_,O_,O_,O_,O_,O_,O_,O_,O_,O_,O_,O_,O_,O_,O_,O_,O_,O_,O_,O_,O_,O_,O_]) rfl 23 hP32 hK32 ?_
      refine dS (i := 21) (listed' := #[I_,I_,I_,I_,I_,I_,I_,I_,I_,I_,I_,I_,I_,I_,I_,I_,I_,I_,I_,I_,I_,I_,O_,O_,O_,O_,O_,O_,O_,O_,O_,O_,O_,O_,O_,O_,O_,O_,O_,O_,O_,O_,O_]) rfl 20 hP32 rfl hK32 ?_
      refine dT (i := 22) (listed' := #[I_,I_,I_,I_,I_,I_,I_,I_,I_,I_,I_,I_,I_,I_,I_,I_,I_,I_,I_,I_,I_,I_,I_,O_,O_,O_,O_,O_,O_,O_,O_,O_,O_,O_,O_,O_,O_,O_,O_,O_,O_,O_,O_]) rfl hP32 hK32 (fun wS hS => (r_pickT (v := .bool true) rfl rfl)) ?_
      refine dT (i := 23) (listed' := #[I_,I_,I_,I_,I_,I_,I_,I_,I_,I_,I_,I_,I_,I_,I_,I_,I_,I_,I_,I_,I_,I_,I_,I_,O_,O_,O_,O_,O_,O_,O_,O_,O_,O_,O_,O_,O_,O_,O_,O_,O_,O_,O_]) rfl hP32 hK32 (fun wS hS => (r_move (v := .bool true) rfl)) ?_
      refine dS (i := 24) (listed' := #[I_,I_,I_,I_,I_,I_,I_,I_,I_,I_,I_,I_,I_,I_,I_,I_,I_,I_,I_,I_,I_,I_,I_,I_,I_,O_,O_,O_,O_,O_,O_,O_,O_,O_,O_,O_,O_,O_,O_,O_,O_,O_,O_]) rfl 35 hP32 rfl hK32 ?_
      refine dS (i := 25) (listed' := #[I_,I_,I_,I_,I_,I_,I_,I_,I_,I_,I_,I_,I_,I_,I_,I_,I_,I_,I_,I_,I_,I_,I_,I_,I_,I_,O_,O_,O_,O_,O_,O_,O_,O_,O_,O_,O_,O_,O_,O_,O_,O_,O_]) rfl 35 hP32 rfl hK32 ?_
      refine dS (i := 26) (listed' := #[I_,I_,I_,I_,I_,I_,I_,I_,I_,I_,I_,I_,I_,I_,I_,I_,I_,I_,I_,I_,I_,I_,I_,I_,I_,I_,I_,O_,O_,O_,O_,O_,O_,O_,O_,O_,O_,O_,O_,O_,O_,O_,O_]) rfl 35 hP32 rfl hK32 ?_
      refine dT (i := 27) (listed' := #[I_,I_,I_,I_,I_,I_,I_,I_,I_,I_,I_,I_,I_,I_,I_,I_,I_,I_,I_,I_,I_,I_,I_,I_,I_,I_,I_,I_,O_,O_,O_,O_,O_,O_,O_,O_,O_,O_,O_,O_,O_,O_,O_]) rfl hP32 hK32 (fun wS hS => (r_pickT (v := .bool true) rfl rfl)) ?_
      refine dT (i := 28) (listed' := #[I_,I_,I_,I_,I_,I_,I_,I_,I_,I_,I_,I_,I_,I_,I_,I_,I_,I_,I_,I_,I_,I_,I_,I_,I_,I_,I_,I_,I_,O_,O_,O_,O_,O_,O_,O_,O_,O_,O_,O_,O_,O_,O_]) rfl hP32 hK32 (fun wS hS => (r_move (v := .bool true) rfl)) ?_
      refine dS (i := 29) (listed' := #[I_,I_,I_,I_,I_,I_,I_,I_,I_,I_,I_,I_,I_,I_,I_,I_,I_,I_,I_,I_,I_,I_,I_,I_,I_,I_,I_,I_,I_,I_,O_,O_,O_,O_,O_,O_,O_,O_,O_,O_,O_,O_,O_]) rfl 40 hP32 rfl hK32 ?_
      refine dS (i := 30) (listed' := #[I_,I_,I_,I_,I_,I_,I_,I_,I_,I_,I_,I_,I_,I_,I_,I_,I_,I_,I_,I_,I_,I_,I_,I_,I_,I_,I_,I_,I_,I_,I_,O_,O_,O_,O_,O_,O_,O_,O_,O_,O_,O_,O_]) rfl 40 hP32 rfl hK32 ?_
      refine dS (i := 31) (listed' := #[I_,I_,I_,I_,I_,I_,I_,I_,I_,I_,I_,I_,I_,I_,I_,I_,I_,I_,I_,I_,I_,I_,I_,I_,I_,I_,I_,I_,I_,I_,I_,I_,O_,O_,O_,O_,O_,O_,O_,O_,O_,O_,O_]) rfl 40 hP32 rfl hK32 ?_
      refine dT (i := 32) (listed' := #[I_,I_,I_,I_,I_,I_,I_,I_,I_,I_,I_,I_,I_,I_,I_,I_,I_,I_,I_,I_,I_,I_,I_,I_,I_,I_,I_,I_,I_,I_,I_,I_,I_,O_,O_,O_,O_,O_,O_,O_,O_,O_,O_]) rfl hP32 hK32 (fun wS hS => (r_pickT (v := .bool true) rfl rfl)) ?_
      refine dT (i := 33) (listed' := #[I_,I_,I_,I_,I_,I_,I_,I_,I_,I_,I_,I_,I_,I_,I_,I_,I_,I_,I_,I_,I_,I_,I_,I_,I_,I_,I_,I_,I_,I_,I_,I_,I_,I_,O_,O_,O_,O_,O_,O_,O_,O_,O_]) rfl hP32 hK32 (fun wS hS => (r_move (v := .bool true) rfl)) ?_
      refine dS (i := 34) (listed' := #[I_,I_,I_,I_,I_,I_,I_,I_,I_,I_,I_,I_,I_,I_,I_,I_,I_,I_,I_,I_,I_,I_,I_,I_,I_,I_,I_,I_,I_,I_,I_,I_,I_,I_,I_,O_,O_,O_,O_,O_,O_,O_,O_]) rfl 45 hP32 rfl hK32 ?_
      refine dS (i := 35) (listed' := #[I_,I_,I_,I_,I_,I_,I_,I_,I_,I_,I_,I_,I_,I_,I_,I_,I_,I_,I_,I_,I_,I_,I_,I_,I_,I_,I_,I_,I_,I_,I_,I_,I_,I_,I_,I_,O_,O_,O_,O_,O_,O_,O_]) rfl 45 hP32 rfl hK32 ?_
      refine dS (i := 36) (listed' := #[I_,I_,I_,I_,I_,I_,I_,I_,I_,I_,I_,I_,I_,I_,I_,I_,I_,I_,I_,I_,I_,I_,I_,I_,I_,I_,I_,I_,I_,I_,I_,I_,I_,I_,I_,I_,I_,O_,O_,O_,O_,O_,O_]) rfl 45 hP32 rfl hK32 ?_
      refine dT (i := 37) (listed' := #[I_,I_,I_,I_,I_,I_,I_,I_,I_,I_,I_,I_,I_,I_,I_,I_,I_,I_,I_,I_,I_,I_,I_,I_,I_,I_,I_,I_,I_,I_,I_,I_,I_,I_,I_,I_,I_,I_,O_,O_,O_,O_,O_]) rfl hP32 hK32 (fun wS hS => (r_pickT (v := .bool true) rfl rfl)) ?_
      refine dT (i := 38) (listed' := #[I_,I_,I_,I_,I_,I_,I_,I_,I_,I_,I_,I_,I_,I_,I_,I_,I_,I_,I_,I_,I_,I_,I_,I_,I_,I_,I_,I_,I_,I_,I_,I_,I_,I_,I_,I_,I_,I_,I_,O_,O_,O_,O_]) rfl hP32 hK32 (fun wS hS => (r_move (v := .bool true) rfl)) ?_
      refine dS (i := 39) (listed' := #[I_,I_,I_,I_,I_,I_,I_,I_,I_,I_,I_,I_,I_,I_,I_,I_,I_,I_,I_,I_,I_,I_,I_,I_,I_,I_,I_,I_,I_,I_,I_,I_,I_,I_,I_,I_,I_,I_,I_,I_,O_,O_,O_]) rfl 50 hP32 rfl hK32 ?_
      refine dS (i := 40) (listed' := #[I_,I_,I_,I_,I_,I_,I_,I_,I_,I_,I_,I_,I_,I_,I_,I_,I_,I_,I_,I_,I_,I_,I_,I_,I_,I_,I_,I_,I_,I_,I_,I_,I_,I_,I_,I_,I_,I_,I_,I_,I_,O_,O_]) rfl 50 hP32 rfl hK32 ?_
      refine dS (i := 41) (listed' := #[I_,I_,I_,I_,I_,I_,I_,I_,I_,I_,I_,I_,I_,I_,I_,I_,I_,I_,I_,I_,I_,I_,I_,I_,I_,I_,I_,I_,I_,I_,I_,I_,I_,I_,I_,I_,I_,I_,I_,I_,I_,I_,O_]) rfl 50 hP32 rfl hK32 ?_
      refine dT (i := 42) (listed' := #[I_,I_,I_,I_,I_,I_,I_,I_,I_,I_,I_,I_,I_,I_,I_,I_,I_,I_,I_,I_,I_,I_,I_,I_,I_,I_,I_,I_,I_,I_,I_,I_,I_,I_,I_,I_,I_,I_,I_,I_,I_,I_,I_]) rfl hP32 hK32 (fun wS hS => (r_pickT (v := .bool true) rfl rfl)) ?_
      refine d_done (by kernel_rfl) ?_
      refine c_next ?_
      refine c_condT rfl ?_
      refine c_seq ?_
      refine c_reg ?_
      refine sv (r_assign (v := .bool false) rfl) ?_
      refine s_nil ?_
      refine c_next ?_
      refine c_ret ?_
      refine r_block ?_
      refine r_then ?_
      refine r_then ?_
      refine r_block ?_
      refine r_then ?_
      replace h := crossE h hyl19
      refine e_1 (v := .bool false) Try.results38 rfl ?_
      obtain ⟨hO33, e33⟩ := hO31.drop1
      rw [← Option.some.inj h]
      exact ⟨rfl, hO33, (e19.trans (e20.trans (e25.trans (e28.trans (e31.trans e33)))))⟩
    replace h := iF (Int.not_lt.2 h14) h
    refine dT (i := 3) (listed' := #[I_,I_,I_,I_,O_,O_,O_,O_,O_,O_,O_,O_,O_,O_,O_,O_,O_,O_,O_,O_,O_,O_,O_,O_,O_,O_,O_,O_,O_,O_,O_,O_,O_,O_,O_,O_,O_,O_,O_,O_,O_,O_,O_]) rfl hP32 hK32 (fun wS hS => (r_move (v := .bool false) rfl)) ?_
    refine dG (i := 4) (listed' := #[I_,I_,I_,I_,I_,O_,O_,O_,O_,O_,O_,O_,O_,O_,O_,O_,O_,O_,O_,O_,O_,O_,O_,O_,O_,O_,O_,O_,O_,O_,O_,O_,O_,O_,O_,O_,O_,O_,O_,O_,O_,O_,O_]) rfl 15 hP32 rfl hK32 (fun wS hS => (r_fieldAddr Try.underlying56 rfl I3 (by decide) rfl)) ?_
    refine dG (i := 5) (listed' := #[I_,I_,I_,I_,I_,I_,O_,O_,O_,O_,O_,O_,O_,O_,O_,O_,O_,O_,O_,O_,O_,O_,O_,O_,O_,O_,O_,O_,O_,O_,O_,O_,O_,O_,O_,O_,O_,O_,O_,O_,O_,O_,O_]) rfl 15 hP32 rfl hK32 (fun wS hS => (r_load1 (v := .int _ _) Try.underlying3 rfl rfl (cellB (hS.own.get (i := 0) rfl) rfl rfl))) ?_
    refine dt_geqG (i := 6) (listed' := #[I_,I_,I_,I_,I_,I_,I_,O_,O_,O_,O_,O_,O_,O_,O_,O_,O_,O_,O_,O_,O_,O_,O_,O_,O_,O_,O_,O_,O_,O_,O_,O_,O_,O_,O_,O_,O_,O_,O_,O_,O_,O_,O_]) (by rfl) (by kernel_rfl) (by rfl) hP32.u 15 (by rfl) rfl hK32 rfl rfl (fun h18 => ?_) (fun h18 => ?_)
    · replace h := iT h18 h
      refine dT (i := 7) (listed' := #[I_,I_,I_,I_,I_,I_,I_,I_,O_,O_,O_,O_,O_,O_,O_,O_,O_,O_,O_,O_,O_,O_,O_,O_,O_,O_,O_,O_,O_,O_,O_,O_,O_,O_,O_,O_,O_,O_,O_,O_,O_,O_,O_]) rfl hP32 hK32 (fun wS hS => (r_pickF (v := .bool true) rfl rfl)) ?_
      refine dT (i := 8) (listed' := #[I_,I_,I_,I_,I_,I_,I_,I_,I_,O_,O_,O_,O_,O_,O_,O_,O_,O_,O_,O_,O_,O_,O_,O_,O_,O_,O_,O_,O_,O_,O_,O_,O_,O_,O_,O_,O_,O_,O_,O_,O_,O_,O_]) rfl hP32 hK32 (fun wS hS => (r_move (v := .bool true) rfl)) ?_
      refine dS (i := 9) (listed' := #[I_,I_,I_,I_,I_,I_,I_,I_,I_,I_,O_,O_,O_,O_,O_,O_,O_,O_,O_,O_,O_,O_,O_,O_,O_,O_,O_,O_,O_,O_,O_,O_,O_,O_,O_,O_,O_,O_,O_,O_,O_,O_,O_]) rfl 20 hP32 rfl hK32 ?_
      refine dS (i := 10) (listed' := #[I_,I_,I_,I_,I_,I_,I_,I_,I_,I_,I_,O_,O_,O_,O_,O_,O_,O_,O_,O_,O_,O_,O_,O_,O_,O_,O_,O_,O_,O_,O_,O_,O_,O_,O_,O_,O_,O_,O_,O_,O_,O_,O_]) rfl 20 hP32 rfl hK32 ?_
      refine dS (i := 11) (listed' := #[I_,I_,I_,I_,I_,I_,I_,I_,I_,I_,I_,I_,O_,O_,O_,O_,O_,O_,O_,O_,O_,O_,O_,O_,O_,O_,O_,O_,O_,O_,O_,O_,O_,O_,O_,O_,O_,O_,O_,O_,O_,O_,O_]) rfl 20 hP32 rfl hK32 ?_
      refine dU (i := 12) (listed' := #[I_,I_,I_,I_,I_,I_,I_,I_,I_,I_,I_,I_,I_,O_,O_,O_,O_,O_,O_,O_,O_,O_,O_,O_,O_,O_,O_,O_,O_,O_,O_,O_,O_,O_,O_,O_,O_,O_,O_,O_,O_,O_,O_]) rfl 23 hP32 hK32 ?_
      refine dU (i := 13) (listed' := #[I_,I_,I_,I_,I_,I_,I_,I_,I_,I_,I_,I_,I_,I_,O_,O_,O_,O_,O_,O_,O_,O_,O_,O_,O_,O_,O_,O_,O_,O_,O_,O_,O_,O_,O_,O_,O_,O_,O_,O_,O_,O_,O_]) rfl 23 hP32 hK32 ?_
      refine dU (i := 14) (listed' := #[I_,I_,I_,I_,I_,I_,I_,I_,I_,I_,I_,I_,I_,I_,I_,O_,O_,O_,O_,O_,O_,O_,O_,O_,O_,O_,O_,O_,O_,O_,O_,O_,O_,O_,O_,O_,O_,O_,O_,O_,O_,O_,O_]) rfl 23 hP32 hK32 ?_
      refine dU (i := 15) (listed' := #[I_,I_,I_,I_,I_,I_,I_,I_,I_,I_,I_,I_,I_,I_,I_,I_,O_,O_,O_,O_,O_,O_,O_,O_,O_,O_,O_,O_,O_,O_,O_,O_,O_,O_,O_,O_,O_,O_,O_,O_,O_,O_,O_]) rfl 23 hP32 hK32 ?_
      refine dU (i := 16) (listed' := #[I_,I_,I_,I_,I_,I_,I_,I_,I_,I_,I_,I_,I_,I_,I_,I_,I_,O_,O_,O_,O_,O_,O_,O_,O_,O_,O_,O_,O_,O_,O_,O_,O_,O_,O_,O_,O_,O_,O_,O_,O_,O_,O_]) rfl 23 hP32 hK32 ?_
      refine dU (i := 17) (listed' := #[I_,I_,I_,I_,I_,I_,I_,I_,I_,I_,I_,I_,I_,I_,I_,I_,I_,I_,O_,O_,O_,O_,O_,O_,O_,O_,O_,O_,O_,O_,O_,O_,O_,O_,O_,O_,O_,O_,O_,O_,O_,O_,O_]) rfl 23 hP32 hK32 ?_
      refine dU (i := 18) (listed' := #[I_,I_,I_,I_,I_,I_,I_,I_,I_,I_,I_,I_,I_,I_,I_,I_,I_,I_,I_,O_,O_,O_,O_,O_,O_,O_,O_,O_,O_,O_,O_,O_,O_,O_,O_,O_,O_,O_,O_,O_,O_,O_,O_]) rfl 23 hP32 hK32 ?_
      refine dU (i := 19) (listed' := #[I_,I_,I_,I_,I_,I_,I_,I_,I_,I_,I_,I_,I_,I_,I_,I_,I_,I_,I_,I_,O_,O_,O_,O_,O_,O_,O_,O_,O_,O_,O_,O_,O_,O_,O_,O_,O_,O_,O_,O_,O_,O_,O_]) rfl 23 hP32 hK32 ?_
      refine dU (i := 20) (listed' := #[I_,I_,I_,I_,I_,I_,I_,I_,I_,I_,I_,I_,I_,I_,I_,I_,I_,I_,I_,I_,I_,O_,O_,O_,O_,O_,O_,O_,O_,O_,O_,O_,O_,O_,O_,O_,O_,O_,O_,O_,O_,O_,O_]) rfl 23 hP32 hK32 ?_
      refine dS (i := 21) (listed' := #[I_,I_,I_,I_,I_,I_,I_,I_,I_,I_,I_,I_,I_,I_,I_,I_,I_,I_,I_,I_,I_,I_,O_,O_,O_,O_,O_,O_,O_,O_,O_,O_,O_,O_,O_,O_,O_,O_,O_,O_,O_,O_,O_]) rfl 20 hP32 rfl hK32 ?_
      refine dT (i := 22) (listed' := #[I_,I_,I_,I_,I_,I_,I_,I_,I_,I_,I_,I_,I_,I_,I_,I_,I_,I_,I_,I_,I_,I_,I_,O_,O_,O_,O_,O_,O_,O_,O_,O_,O_,O_,O_,O_,O_,O_,O_,O_,O_,O_,O_]) rfl hP32 hK32 (fun wS hS => (r_pickT (v := .bool true) rfl rfl)) ?_
      refine dT (i := 23) (listed' := #[I_,I_,I_,I_,I_,I_,I_,I_,I_,I_,I_,I_,I_,I_,I_,I_,I_,I_,I_,I_,I_,I_,I_,I_,O_,O_,O_,O_,O_,O_,O_,O_,O_,O_,O_,O_,O_,O_,O_,O_,O_,O_,O_]) rfl hP32 hK32 (fun wS hS => (r_move (v := .bool true) rfl)) ?_
      refine dS (i := 24) (listed' := #[I_,I_,I_,I_,I_,I_,I_,I_,I_,I_,I_,I_,I_,I_,I_,I_,I_,I_,I_,I_,I_,I_,I_,I_,I_,O_,O_,O_,O_,O_,O_,O_,O_,O_,O_,O_,O_,O_,O_,O_,O_,O_,O_]) rfl 35 hP32 rfl hK32 ?_
      refine dS (i := 25) (listed' := #[I_,I_,I_,I_,I_,I_,I_,I_,I_,I_,I_,I_,I_,I_,I_,I_,I_,I_,I_,I_,I_,I_,I_,I_,I_,I_,O_,O_,O_,O_,O_,O_,O_,O_,O_,O_,O_,O_,O_,O_,O_,O_,O_]) rfl 35 hP32 rfl hK32 ?_
      refine dS (i := 26) (listed' := #[I_,I_,I_,I_,I_,I_,I_,I_,I_,I_,I_,I_,I_,I_,I_,I_,I_,I_,I_,I_,I_,I_,I_,I_,I_,I_,I_,O_,O_,O_,O_,O_,O_,O_,O_,O_,O_,O_,O_,O_,O_,O_,O_]) rfl 35 hP32 rfl hK32 ?_
      refine dT (i := 27) (listed' := #[I_,I_,I_,I_,I_,I_,I_,I_,I_,I_,I_,I_,I_,I_,I_,I_,I_,I_,I_,I_,I_,I_,I_,I_,I_,I_,I_,I_,O_,O_,O_,O_,O_,O_,O_,O_,O_,O_,O_,O_,O_,O_,O_]) rfl hP32 hK32 (fun wS hS => (r_pickT (v := .bool true) rfl rfl)) ?_
      refine dT (i := 28) (listed' := #[I_,I_,I_,I_,I_,I_,I_,I_,I_,I_,I_,I_,I_,I_,I_,I_,I_,I_,I_,I_,I_,I_,I_,I_,I_,I_,I_,I_,I_,O_,O_,O_,O_,O_,O_,O_,O_,O_,O_,O_,O_,O_,O_]) rfl hP32 hK32 (fun wS hS => (r_move (v := .bool true) rfl)) ?_
      refine dS (i := 29) (listed' := #[I_,I_,I_,I_,I_,I_,I_,I_,I_,I_,I_,I_,I_,I_,I_,I_,I_,I_,I_,I_,I_,I_,I_,I_,I_,I_,I_,I_,I_,I_,O_,O_,O_,O_,O_,O_,O_,O_,O_,O_,O_,O_,O_]) rfl 40 hP32 rfl hK32 ?_
      refine dS (i := 30) (listed' := #[I_,I_,I_,I_,I_,I_,I_,I_,I_,I_,I_,I_,I_,I_,I_,I_,I_,I_,I_,I_,I_,I_,I_,I_,I_,I_,I_,I_,I_,I_,I_,O_,O_,O_,O_,O_,O_,O_,O_,O_,O_,O_,O_]) rfl 40 hP32 rfl hK32 ?_
      refine dS (i := 31) (listed' := #[I_,I_,I_,I_,I_,I_,I_,I_,I_,I_,I_,I_,I_,I_,I_,I_,I_,I_,I_,I_,I_,I_,I_,I_,I_,I_,I_,I_,I_,I_,I_,I_,O_,O_,O_,O_,O_,O_,O_,O_,O_,O_,O_]) rfl 40 hP32 rfl hK32 ?_
      refine dT (i := 32) (listed' := #[I_,I_,I_,I_,I_,I_,I_,I_,I_,I_,I_,I_,I_,I_,I_,I_,I_,I_,I_,I_,I_,I_,I_,I_,I_,I_,I_,I_,I_,I_,I_,I_,I_,O_,O_,O_,O_,O_,O_,O_,O_,O_,O_]) rfl hP32 hK32 (fun wS hS => (r_pickT (v := .bool true) rfl rfl)) ?_
      refine dT (i := 33) (listed' := #[I_,I_,I_,I_,I_,I_,I_,I_,I_,I_,I_,I_,I_,I_,I_,I_,I_,I_,I_,I_,I_,I_,I_,I_,I_,I_,I_,I_,I_,I_,I_,I_,I_,I_,O_,O_,O_,O_,O_,O_,O_,O_,O_]) rfl hP32 hK32 (fun wS hS => (r_move (v := .bool true) rfl)) ?_
      refine dS (i := 34) (listed' := #[I_,I_,I_,I_,I_,I_,I_,I_,I_,I_,I_,I_,I_,I_,I_,I_,I_,I_,I_,I_,I_,I_,I_,I_,I_,I_,I_,I_,I_,I_,I_,I_,I_,I_,I_,O_,O_,O_,O_,O_,O_,O_,O_]) rfl 45 hP32 rfl hK32 ?_
      refine dS (i := 35) (listed' := #[I_,I_,I_,I_,I_,I_,I_,I_,I_,I_,I_,I_,I_,I_,I_,I_,I_,I_,I_,I_,I_,I_,I_,I_,I_,I_,I_,I_,I_,I_,I_,I_,I_,I_,I_,I_,O_,O_,O_,O_,O_,O_,O_]) rfl 45 hP32 rfl hK32 ?_
      refine dS (i := 36) (listed' := #[I_,I_,I_,I_,I_,I_,I_,I_,I_,I_,I_,I_,I_,I_,I_,I_,I_,I_,I_,I_,I_,I_,I_,I_,I_,I_,I_,I_,I_,I_,I_,I_,I_,I_,I_,I_,I_,O_,O_,O_,O_,O_,O_]) rfl 45 hP32 rfl hK32 ?_
      refine dT (i := 37) (listed' := #[I_,I_,I_,I_,I_,I_,I_,I_,I_,I_,I_,I_,I_,I_,I_,I_,I_,I_,I_,I_,I_,I_,I_,I_,I_,I_,I_,I_,I_,I_,I_,I_,I_,I_,I_,I_,I_,I_,O_,O_,O_,O_,O_]) rfl hP32 hK32 (fun wS hS => (r_pickT (v := .bool true) rfl rfl)) ?_
      refine dT (i := 38) (listed' := #[I_,I_,I_,I_,I_,I_,I_,I_,I_,I_,I_,I_,I_,I_,I_,I_,I_,I_,I_,I_,I_,I_,I_,I_,I_,I_,I_,I_,I_,I_,I_,I_,I_,I_,I_,I_,I_,I_,I_,O_,O_,O_,O_]) rfl hP32 hK32 (fun wS hS => (r_move (v := .bool true) rfl)) ?_
      refine dS (i := 39) (listed' := #[I_,I_,I_,I_,I_,I_,I_,I_,I_,I_,I_,I_,I_,I_,I_,I_,I_,I_,I_,I_,I_,I_,I_,I_,I_,I_,I_,I_,I_,I_,I_,I_,I_,I_,I_,I_,I_,I_,I_,I_,O_,O_,O_]) rfl 50 hP32 rfl hK32 ?_
      refine dS (i := 40) (listed' := #[I_,I_,I_,I_,I_,I_,I_,I_,I_,I_,I_,I_,I_,I_,I_,I_,I_,I_,I_,I_,I_,I_,I_,I_,I_,I_,I_,I_,I_,I_,I_,I_,I_,I_,I_,I_,I_,I_,I_,I_,I_,O_,O_]) rfl 50 hP32 rfl hK32 ?_
      refine dS (i := 41) (listed' := #[I_,I_,I_,I_,I_,I_,I_,I_,I_,I_,I_,I_,I_,I_,I_,I_,I_,I_,I_,I_,I_,I_,I_,I_,I_,I_,I_,I_,I_,I_,I_,I_,I_,I_,I_,I_,I_,I_,I_,I_,I_,I_,O_]) rfl 50 hP32 rfl hK32 ?_
      refine dT (i := 42) (listed' := #[I_,I_,I_,I_,I_,I_,I_,I_,I_,I_,I_,I_,I_,I_,I_,I_,I_,I_,I_,I_,I_,I_,I_,I_,I_,I_,I_,I_,I_,I_,I_,I_,I_,I_,I_,I_,I_,I_,I_,I_,I_,I_,I_]) rfl hP32 hK32 (fun wS hS => (r_pickT (v := .bool true) rfl rfl)) ?_
      refine d_done (by kernel_rfl) ?_
      refine c_next ?_
      refine c_condT rfl ?_
      refine c_seq ?_
      refine c_reg ?_
      refine sv (r_assign (v := .bool false) rfl) ?_
      refine s_nil ?_
      refine c_next ?_
      refine c_ret ?_
      refine r_block ?_
      refine r_then ?_
      refine r_then ?_
      refine r_block ?_
      refine r_then ?_
      replace h := crossE h hyl19
      refine e_1 (v := .bool false) Try.results38 rfl ?_
      obtain ⟨hO34, e34⟩ := hO31.drop1
      rw [← Option.some.inj h]
      exact ⟨rfl, hO34, (e19.trans (e20.trans (e25.trans (e28.trans (e31.trans e34)))))⟩
    replace h := iF (Int.not_le.2 h18) h
    refine dT (i := 7) (listed' := #[I_,I_,I_,I_,I_,I_,I_,I_,O_,O_,O_,O_,O_,O_,O_,O_,O_,O_,O_,O_,O_,O_,O_,O_,O_,O_,O_,O_,O_,O_,O_,O_,O_,O_,O_,O_,O_,O_,O_,O_,O_,O_,O_]) rfl hP32 hK32 (fun wS hS => (r_pickF (v := .bool false) rfl rfl)) ?_
    refine dT (i := 8) (listed' := #[I_,I_,I_,I_,I_,I_,I_,I_,I_,O_,O_,O_,O_,O_,O_,O_,O_,O_,O_,O_,O_,O_,O_,O_,O_,O_,O_,O_,O_,O_,O_,O_,O_,O_,O_,O_,O_,O_,O_,O_,O_,O_,O_]) rfl hP32 hK32 (fun wS hS => (r_move (v := .bool false) rfl)) ?_
    refine dG (i := 9) (listed' := #[I_,I_,I_,I_,I_,I_,I_,I_,I_,I_,O_,O_,O_,O_,O_,O_,O_,O_,O_,O_,O_,O_,O_,O_,O_,O_,O_,O_,O_,O_,O_,O_,O_,O_,O_,O_,O_,O_,O_,O_,O_,O_,O_]) rfl 20 hP32 rfl hK32 (fun wS hS => (r_move (v := .int _ _) rfl)) ?_
    refine dt_gtrG (i := 10) (listed' := #[I_,I_,I_,I_,I_,I_,I_,I_,I_,I_,I_,O_,O_,O_,O_,O_,O_,O_,O_,O_,O_,O_,O_,O_,O_,O_,O_,O_,O_,O_,O_,O_,O_,O_,O_,O_,O_,O_,O_,O_,O_,O_,O_]) (by rfl) (by kernel_rfl) (by rfl) hP32.u 20 (by rfl) rfl hK32 rfl rfl (fun h22 => ?_) (fun h22 => ?_)
    · replace h := iT h22 h
      refine dG (i := 11) (listed' := #[I_,I_,I_,I_,I_,I_,I_,I_,I_,I_,I_,I_,O_,O_,O_,O_,O_,O_,O_,O_,O_,O_,O_,O_,O_,O_,O_,O_,O_,O_,O_,O_,O_,O_,O_,O_,O_,O_,O_,O_,O_,O_,O_]) rfl 20 hP32 rfl hK32 (fun wS hS => (r_move (v := .bool true) rfl)) ?_
      refine dG (i := 12) (listed' := #[I_,I_,I_,I_,I_,I_,I_,I_,I_,I_,I_,I_,I_,O_,O_,O_,O_,O_,O_,O_,O_,O_,O_,O_,O_,O_,O_,O_,O_,O_,O_,O_,O_,O_,O_,O_,O_,O_,O_,O_,O_,O_,O_]) rfl 23 hP32 rfl hK32 (fun wS hS => (r_fieldAddr Try.underlying56 rfl I3 (by decide) rfl)) ?_
      refine dG (i := 13) (listed' := #[I_,I_,I_,I_,I_,I_,I_,I_,I_,I_,I_,I_,I_,I_,O_,O_,O_,O_,O_,O_,O_,O_,O_,O_,O_,O_,O_,O_,O_,O_,O_,O_,O_,O_,O_,O_,O_,O_,O_,O_,O_,O_,O_]) rfl 23 hP32 rfl hK32 (fun wS hS => (r_load1 (v := .int _ _) Try.underlying3 rfl rfl (cellB (hS.own.get (i := 0) rfl) rfl rfl))) ?_
      refine dG (i := 14) (listed' := #[I_,I_,I_,I_,I_,I_,I_,I_,I_,I_,I_,I_,I_,I_,I_,O_,O_,O_,O_,O_,O_,O_,O_,O_,O_,O_,O_,O_,O_,O_,O_,O_,O_,O_,O_,O_,O_,O_,O_,O_,O_,O_,O_]) rfl 23 hP32 rfl hK32 (fun wS hS => (r_move (v := .slice _ _ _) rfl)) ?_
      refine dG (i := 15) (listed' := #[I_,I_,I_,I_,I_,I_,I_,I_,I_,I_,I_,I_,I_,I_,I_,I_,O_,O_,O_,O_,O_,O_,O_,O_,O_,O_,O_,O_,O_,O_,O_,O_,O_,O_,O_,O_,O_,O_,O_,O_,O_,O_,O_]) rfl 23 hP32 rfl hK32 (fun wS hS => (r_move (v := .int _ _) rfl)) ?_
      refine dG (i := 16) (listed' := #[I_,I_,I_,I_,I_,I_,I_,I_,I_,I_,I_,I_,I_,I_,I_,I_,I_,O_,O_,O_,O_,O_,O_,O_,O_,O_,O_,O_,O_,O_,O_,O_,O_,O_,O_,O_,O_,O_,O_,O_,O_,O_,O_]) rfl 23 hP32 rfl hK32 (fun wS hS => (r_subI (a := xl1_t7) (b := 1) rfl rfl)) ?_
      obtain ⟨y29, hy29, h⟩ := bindE h
      obtain ⟨ad29, had29, hk29⟩ := ix_known (e := e_roster_Device) (Rd.cs hR0p) e_roster_Device_len (by decide) hy29
      have hx29 : Value.slice aP0 mP0 cP0 = .slice (some ad29) mP0 cP0 := by rw [had29]
      refine dG (i := 17) (listed' := #[I_,I_,I_,I_,I_,I_,I_,I_,I_,I_,I_,I_,I_,I_,I_,I_,I_,I_,O_,O_,O_,O_,O_,O_,O_,O_,O_,O_,O_,O_,O_,O_,O_,O_,O_,O_,O_,O_,O_,O_,O_,O_,O_]) rfl 23 hP32 rfl hK32 (fun wS hS => (ra_idx (xs := x0) (i := (w64 (xl1_t7 - 1))) Try.underlying24 I56 (by exact hx29) (by rfl) hm0p hy29)) ?_
      refine dG (i := 18) (listed' := #[I_,I_,I_,I_,I_,I_,I_,I_,I_,I_,I_,I_,I_,I_,I_,I_,I_,I_,I_,O_,O_,O_,O_,O_,O_,O_,O_,O_,O_,O_,O_,O_,O_,O_,O_,O_,O_,O_,O_,O_,O_,O_,O_]) rfl 23 hP32 rfl hK32 (fun wS hS => (r_fieldAddr Try.underlying56 rfl I3 (by decide) rfl)) ?_
      refine dG (i := 19) (listed' := #[I_,I_,I_,I_,I_,I_,I_,I_,I_,I_,I_,I_,I_,I_,I_,I_,I_,I_,I_,I_,O_,O_,O_,O_,O_,O_,O_,O_,O_,O_,O_,O_,O_,O_,O_,O_,O_,O_,O_,O_,O_,O_,O_]) rfl 23 hP32 rfl hK32 (fun wS hS => (r_load1 (v := .int _ _) Try.underlying3 rfl rfl (cellP (hk29 _ (hR0p.kept hS)) 0 rfl))) ?_
      refine dt_leqG (i := 20) (listed' := #[I_,I_,I_,I_,I_,I_,I_,I_,I_,I_,I_,I_,I_,I_,I_,I_,I_,I_,I_,I_,I_,O_,O_,O_,O_,O_,O_,O_,O_,O_,O_,O_,O_,O_,O_,O_,O_,O_,O_,O_,O_,O_,O_]) (by rfl) (by kernel_rfl) (by rfl) hP32.u 23 (by rfl) rfl hK32 rfl rfl (fun h32 => ?_) (fun h32 => ?_)
      · replace h := iT h32 h
        refine dG (i := 21) (listed' := #[I_,I_,I_,I_,I_,I_,I_,I_,I_,I_,I_,I_,I_,I_,I_,I_,I_,I_,I_,I_,I_,I_,O_,O_,O_,O_,O_,O_,O_,O_,O_,O_,O_,O_,O_,O_,O_,O_,O_,O_,O_,O_,O_]) rfl 20 hP32 rfl hK32 (fun wS hS => (r_pickT (v := .bool true) rfl rfl)) ?_
        refine dT (i := 22) (listed' := #[I_,I_,I_,I_,I_,I_,I_,I_,I_,I_,I_,I_,I_,I_,I_,I_,I_,I_,I_,I_,I_,I_,I_,O_,O_,O_,O_,O_,O_,O_,O_,O_,O_,O_,O_,O_,O_,O_,O_,O_,O_,O_,O_]) rfl hP32 hK32 (fun wS hS => (r_pickF (v := .bool true) rfl rfl)) ?_
        refine dT (i := 23) (listed' := #[I_,I_,I_,I_,I_,I_,I_,I_,I_,I_,I_,I_,I_,I_,I_,I_,I_,I_,I_,I_,I_,I_,I_,I_,O_,O_,O_,O_,O_,O_,O_,O_,O_,O_,O_,O_,O_,O_,O_,O_,O_,O_,O_]) rfl hP32 hK32 (fun wS hS => (r_move (v := .bool true) rfl)) ?_
        refine dS (i := 24) (listed' := #[I_,I_,I_,I_,I_,I_,I_,I_,I_,I_,I_,I_,I_,I_,I_,I_,I_,I_,I_,I_,I_,I_,I_,I_,I_,O_,O_,O_,O_,O_,O_,O_,O_,O_,O_,O_,O_,O_,O_,O_,O_,O_,O_]) rfl 35 hP32 rfl hK32 ?_
        refine dS (i := 25) (listed' := #[I_,I_,I_,I_,I_,I_,I_,I_,I_,I_,I_,I_,I_,I_,I_,I_,I_,I_,I_,I_,I_,I_,I_,I_,I_,I_,O_,O_,O_,O_,O_,O_,O_,O_,O_,O_,O_,O_,O_,O_,O_,O_,O_]) rfl 35 hP32 rfl hK32 ?_
        refine dS (i := 26) (listed' := #[I_,I_,I_,I_,I_,I_,I_,I_,I_,I_,I_,I_,I_,I_,I_,I_,I_,I_,I_,I_,I_,I_,I_,I_,I_,I_,I_,O_,O_,O_,O_,O_,O_,O_,O_,O_,O_,O_,O_,O_,O_,O_,O_]) rfl 35 hP32 rfl hK32 ?_
        refine dT (i := 27) (listed' := #[I_,I_,I_,I_,I_,I_,I_,I_,I_,I_,I_,I_,I_,I_,I_,I_,I_,I_,I_,I_,I_,I_,I_,I_,I_,I_,I_,I_,O_,O_,O_,O_,O_,O_,O_,O_,O_,O_,O_,O_,O_,O_,O_]) rfl hP32 hK32 (fun wS hS => (r_pickT (v := .bool true) rfl rfl)) ?_
        refine dT (i := 28) (listed' := #[I_,I_,I_,I_,I_,I_,I_,I_,I_,I_,I_,I_,I_,I_,I_,I_,I_,I_,I_,I_,I_,I_,I_,I_,I_,I_,I_,I_,I_,O_,O_,O_,O_,O_,O_,O_,O_,O_,O_,O_,O_,O_,O_]) rfl hP32 hK32 (fun wS hS => (r_move (v := .bool true) rfl)) ?_
        refine dS (i := 29) (listed' := #[I_,I_,I_,I_,I_,I_,I_,I_,I_,I_,I_,I_,I_,I_,I_,I_,I_,I_,I_,I_,I_,I_,I_,I_,I_,I_,I_,I_,I_,I_,O_,O_,O_,O_,O_,O_,O_,O_,O_,O_,O_,O_,O_]) rfl 40 hP32 rfl hK32 ?_
        refine dS (i := 30) (listed' := #[I_,I_,I_,I_,I_,I_,I_,I_,I_,I_,I_,I_,I_,I_,I_,I_,I_,I_,I_,I_,I_,I_,I_,I_,I_,I_,I_,I_,I_,I_,I_,O_,O_,O_,O_,O_,O_,O_,O_,O_,O_,O_,O_]) rfl 40 hP32 rfl hK32 ?_
        refine dS (i := 31) (listed' := #[I_,I_,I_,I_,I_,I_,I_,I_,I_,I_,I_,I_,I_,I_,I_,I_,I_,I_,I_,I_,I_,I_,I_,I_,I_,I_,I_,I_,I_,I_,I_,I_,O_,O_,O_,O_,O_,O_,O_,O_,O_,O_,O_]) rfl 40 hP32 rfl hK32 ?_
        refine dT (i := 32) (listed' := #[I_,I_,I_,I_,I_,I_,I_,I_,I_,I_,I_,I_,I_,I_,I_,I_,I_,I_,I_,I_,I_,I_,I_,I_,I_,I_,I_,I_,I_,I_,I_,I_,I_,O_,O_,O_,O_,O_,O_,O_,O_,O_,O_]) rfl hP32 hK32 (fun wS hS => (r_pickT (v := .bool true) rfl rfl)) ?_
        refine dT (i := 33) (listed' := #[I_,I_,I_,I_,I_,I_,I_,I_,I_,I_,I_,I_,I_,I_,I_,I_,I_,I_,I_,I_,I_,I_,I_,I_,I_,I_,I_,I_,I_,I_,I_,I_,I_,I_,O_,O_,O_,O_,O_,O_,O_,O_,O_]) rfl hP32 hK32 (fun wS hS => (r_move (v := .bool true) rfl)) ?_
        refine dS (i := 34) (listed' := #[I_,I_,I_,I_,I_,I_,I_,I_,I_,I_,I_,I_,I_,I_,I_,I_,I_,I_,I_,I_,I_,I_,I_,I_,I_,I_,I_,I_,I_,I_,I_,I_,I_,I_,I_,O_,O_,O_,O_,O_,O_,O_,O_]) rfl 45 hP32 rfl hK32 ?_
        refine dS (i := 35) (listed' := #[I_,I_,I_,I_,I_,I_,I_,I_,I_,I_,I_,I_,I_,I_,I_,I_,I_,I_,I_,I_,I_,I_,I_,I_,I_,I_,I_,I_,I_,I_,I_,I_,I_,I_,I_,I_,O_,O_,O_,O_,O_,O_,O_]) rfl 45 hP32 rfl hK32 ?_
        refine dS (i := 36) (listed' := #[I_,I_,I_,I_,I_,I_,I_,I_,I_,I_,I_,I_,I_,I_,I_,I_,I_,I_,I_,I_,I_,I_,I_,I_,I_,I_,I_,I_,I_,I_,I_,I_,I_,I_,I_,I_,I_,O_,O_,O_,O_,O_,O_]) rfl 45 hP32 rfl hK32 ?_
        refine dT (i := 37) (listed' := #[I_,I_,I_,I_,I_,I_,I_,I_,I_,I_,I_,I_,I_,I_,I_,I_,I_,I_,I_,I_,I_,I_,I_,I_,I_,I_,I_,I_,I_,I_,I_,I_,I_,I_,I_,I_,I_,I_,O_,O_,O_,O_,O_]) rfl hP32 hK32 (fun wS hS => (r_pickT (v := .bool true) rfl rfl)) ?_
        refine dT (i := 38) (listed' := #[I_,I_,I_,I_,I_,I_,I_,I_,I_,I_,I_,I_,I_,I_,I_,I_,I_,I_,I_,I_,I_,I_,I_,I_,I_,I_,I_,I_,I_,I_,I_,I_,I_,I_,I_,I_,I_,I_,I_,O_,O_,O_,O_]) rfl hP32 hK32 (fun wS hS => (r_move (v := .bool true) rfl)) ?_
        refine dS (i := 39) (listed' := #[I_,I_,I_,I_,I_,I_,I_,I_,I_,I_,I_,I_,I_,I_,I_,I_,I_,I_,I_,I_,I_,I_,I_,I_,I_,I_,I_,I_,I_,I_,I_,I_,I_,I_,I_,I_,I_,I_,I_,I_,O_,O_,O_]) rfl 50 hP32 rfl hK32 ?_
        refine dS (i := 40) (listed' := #[I_,I_,I_,I_,I_,I_,I_,I_,I_,I_,I_,I_,I_,I_,I_,I_,I_,I_,I_,I_,I_,I_,I_,I_,I_,I_,I_,I_,I_,I_,I_,I_,I_,I_,I_,I_,I_,I_,I_,I_,I_,O_,O_]) rfl 50 hP32 rfl hK32 ?_
        refine dS (i := 41) (listed' := #[I_,I_,I_,I_,I_,I_,I_,I_,I_,I_,I_,I_,I_,I_,I_,I_,I_,I_,I_,I_,I_,I_,I_,I_,I_,I_,I_,I_,I_,I_,I_,I_,I_,I_,I_,I_,I_,I_,I_,I_,I_,I_,O_]) rfl 50 hP32 rfl hK32 ?_
        refine dT (i := 42) (listed' := #[I_,I_,I_,I_,I_,I_,I_,I_,I_,I_,I_,I_,I_,I_,I_,I_,I_,I_,I_,I_,I_,I_,I_,I_,I_,I_,I_,I_,I_,I_,I_,I_,I_,I_,I_,I_,I_,I_,I_,I_,I_,I_,I_]) rfl hP32 hK32 (fun wS hS => (r_pickT (v := .bool true) rfl rfl)) ?_
        refine d_done (by kernel_rfl) ?_
        refine c_next ?_
        refine c_condT rfl ?_
        refine c_seq ?_
        refine c_reg ?_
        refine sv (r_assign (v := .bool false) rfl) ?_
        refine s_nil ?_
        refine c_next ?_
        refine c_ret ?_
        refine r_block ?_
        refine r_then ?_
        refine r_then ?_
        refine r_block ?_
        refine r_then ?_
        replace h := crossE h hyl19
        refine e_1 (v := .bool false) Try.results38 rfl ?_
        obtain ⟨hO35, e35⟩ := hO31.drop1
        rw [← Option.some.inj h]
        exact ⟨rfl, hO35, (e19.trans (e20.trans (e25.trans (e28.trans (e31.trans e35)))))⟩
      replace h := iF (Int.not_le.2 h32) h
      refine dG (i := 21) (listed' := #[I_,I_,I_,I_,I_,I_,I_,I_,I_,I_,I_,I_,I_,I_,I_,I_,I_,I_,I_,I_,I_,I_,O_,O_,O_,O_,O_,O_,O_,O_,O_,O_,O_,O_,O_,O_,O_,O_,O_,O_,O_,O_,O_]) rfl 20 hP32 rfl hK32 (fun wS hS => (r_pickT (v := .bool false) rfl rfl)) ?_
      refine dT (i := 22) (listed' := #[I_,I_,I_,I_,I_,I_,I_,I_,I_,I_,I_,I_,I_,I_,I_,I_,I_,I_,I_,I_,I_,I_,I_,O_,O_,O_,O_,O_,O_,O_,O_,O_,O_,O_,O_,O_,O_,O_,O_,O_,O_,O_,O_]) rfl hP32 hK32 (fun wS hS => (r_pickF (v := .bool false) rfl rfl)) ?_
      refine dT (i := 23) (listed' := #[I_,I_,I_,I_,I_,I_,I_,I_,I_,I_,I_,I_,I_,I_,I_,I_,I_,I_,I_,I_,I_,I_,I_,I_,O_,O_,O_,O_,O_,O_,O_,O_,O_,O_,O_,O_,O_,O_,O_,O_,O_,O_,O_]) rfl hP32 hK32 (fun wS hS => (r_move (v := .bool false) rfl)) ?_
      refine dG (i := 24) (listed' := #[I_,I_,I_,I_,I_,I_,I_,I_,I_,I_,I_,I_,I_,I_,I_,I_,I_,I_,I_,I_,I_,I_,I_,I_,I_,O_,O_,O_,O_,O_,O_,O_,O_,O_,O_,O_,O_,O_,O_,O_,O_,O_,O_]) rfl 35 hP32 rfl hK32 (fun wS hS => (r_fieldAddr Try.underlying56 rfl I3 (by decide) rfl)) ?_
      refine dG (i := 25) (listed' := #[I_,I_,I_,I_,I_,I_,I_,I_,I_,I_,I_,I_,I_,I_,I_,I_,I_,I_,I_,I_,I_,I_,I_,I_,I_,I_,O_,O_,O_,O_,O_,O_,O_,O_,O_,O_,O_,O_,O_,O_,O_,O_,O_]) rfl 35 hP32 rfl hK32 (fun wS hS => (r_load1 (v := .int _ _) Try.underlying3 rfl rfl (cellB (hS.own.get (i := 0) rfl) rfl rfl))) ?_
      refine dt_lssG (i := 26) (listed' := #[I_,I_,I_,I_,I_,I_,I_,I_,I_,I_,I_,I_,I_,I_,I_,I_,I_,I_,I_,I_,I_,I_,I_,I_,I_,I_,I_,O_,O_,O_,O_,O_,O_,O_,O_,O_,O_,O_,O_,O_,O_,O_,O_]) (by rfl) (by kernel_rfl) (by rfl) hP32.u 35 (by rfl) rfl hK32 rfl rfl (fun h38 => ?_) (fun h38 => ?_)
      · replace h := iT h38 h
        refine dT (i := 27) (listed' := #[I_,I_,I_,I_,I_,I_,I_,I_,I_,I_,I_,I_,I_,I_,I_,I_,I_,I_,I_,I_,I_,I_,I_,I_,I_,I_,I_,I_,O_,O_,O_,O_,O_,O_,O_,O_,O_,O_,O_,O_,O_,O_,O_]) rfl hP32 hK32 (fun wS hS => (r_pickF (v := .bool true) rfl rfl)) ?_
        refine dT (i := 28) (listed' := #[I_,I_,I_,I_,I_,I_,I_,I_,I_,I_,I_,I_,I_,I_,I_,I_,I_,I_,I_,I_,I_,I_,I_,I_,I_,I_,I_,I_,I_,O_,O_,O_,O_,O_,O_,O_,O_,O_,O_,O_,O_,O_,O_]) rfl hP32 hK32 (fun wS hS => (r_move (v := .bool true) rfl)) ?_
        refine dS (i := 29) (listed' := #[I_,I_,I_,I_,I_,I_,I_,I_,I_,I_,I_,I_,I_,I_,I_,I_,I_,I_,I_,I_,I_,I_,I_,I_,I_,I_,I_,I_,I_,I_,O_,O_,O_,O_,O_,O_,O_,O_,O_,O_,O_,O_,O_]) rfl 40 hP32 rfl hK32 ?_
        refine dS (i := 30) (listed' := #[I_,I_,I_,I_,I_,I_,I_,I_,I_,I_,I_,I_,I_,I_,I_,I_,I_,I_,I_,I_,I_,I_,I_,I_,I_,I_,I_,I_,I_,I_,I_,O_,O_,O_,O_,O_,O_,O_,O_,O_,O_,O_,O_]) rfl 40 hP32 rfl hK32 ?_
        refine dS (i := 31) (listed' := #[I_,I_,I_,I_,I_,I_,I_,I_,I_,I_,I_,I_,I_,I_,I_,I_,I_,I_,I_,I_,I_,I_,I_,I_,I_,I_,I_,I_,I_,I_,I_,I_,O_,O_,O_,O_,O_,O_,O_,O_,O_,O_,O_]) rfl 40 hP32 rfl hK32 ?_
        refine dT (i := 32) (listed' := #[I_,I_,I_,I_,I_,I_,I_,I_,I_,I_,I_,I_,I_,I_,I_,I_,I_,I_,I_,I_,I_,I_,I_,I_,I_,I_,I_,I_,I_,I_,I_,I_,I_,O_,O_,O_,O_,O_,O_,O_,O_,O_,O_]) rfl hP32 hK32 (fun wS hS => (r_pickT (v := .bool true) rfl rfl)) ?_
        refine dT (i := 33) (listed' := #[I_,I_,I_,I_,I_,I_,I_,I_,I_,I_,I_,I_,I_,I_,I_,I_,I_,I_,I_,I_,I_,I_,I_,I_,I_,I_,I_,I_,I_,I_,I_,I_,I_,I_,O_,O_,O_,O_,O_,O_,O_,O_,O_]) rfl hP32 hK32 (fun wS hS => (r_move (v := .bool true) rfl)) ?_
        refine dS (i := 34) (listed' := #[I_,I_,I_,I_,I_,I_,I_,I_,I_,I_,I_,I_,I_,I_,I_,I_,I_,I_,I_,I_,I_,I_,I_,I_,I_,I_,I_,I_,I_,I_,I_,I_,I_,I_,I_,O_,O_,O_,O_,O_,O_,O_,O_]) rfl 45 hP32 rfl hK32 ?_
        refine dS (i := 35) (listed' := #[I_,I_,I_,I_,I_,I_,I_,I_,I_,I_,I_,I_,I_,I_,I_,I_,I_,I_,I_,I_,I_,I_,I_,I_,I_,I_,I_,I_,I_,I_,I_,I_,I_,I_,I_,I_,O_,O_,O_,O_,O_,O_,O_]) rfl 45 hP32 rfl hK32 ?_
        refine dS (i := 36) (listed' := #[I_,I_,I_,I_,I_,I_,I_,I_,I_,I_,I_,I_,I_,I_,I_,I_,I_,I_,I_,I_,I_,I_,I_,I_,I_,I_,I_,I_,I_,I_,I_,I_,I_,I_,I_,I_,I_,O_,O_,O_,O_,O_,O_]) rfl 45 hP32 rfl hK32 ?_
        refine dT (i := 37) (listed' := #[I_,I_,I_,I_,I_,I_,I_,I_,I_,I_,I_,I_,I_,I_,I_,I_,I_,I_,I_,I_,I_,I_,I_,I_,I_,I_,I_,I_,I_,I_,I_,I_,I_,I_,I_,I_,I_,I_,O_,O_,O_,O_,O_]) rfl hP32 hK32 (fun wS hS => (r_pickT (v := .bool true) rfl rfl)) ?_
        refine dT (i := 38) (listed' := #[I_,I_,I_,I_,I_,I_,I_,I_,I_,I_,I_,I_,I_,I_,I_,I_,I_,I_,I_,I_,I_,I_,I_,I_,I_,I_,I_,I_,I_,I_,I_,I_,I_,I_,I_,I_,I_,I_,I_,O_,O_,O_,O_]) rfl hP32 hK32 (fun wS hS => (r_move (v := .bool true) rfl)) ?_
        refine dS (i := 39) (listed' := #[I_,I_,I_,I_,I_,I_,I_,I_,I_,I_,I_,I_,I_,I_,I_,I_,I_,I_,I_,I_,I_,I_,I_,I_,I_,I_,I_,I_,I_,I_,I_,I_,I_,I_,I_,I_,I_,I_,I_,I_,O_,O_,O_]) rfl 50 hP32 rfl hK32 ?_
        refine dS (i := 40) (listed' := #[I_,I_,I_,I_,I_,I_,I_,I_,I_,I_,I_,I_,I_,I_,I_,I_,I_,I_,I_,I_,I_,I_,I_,I_,I_,I_,I_,I_,I_,I_,I_,I_,I_,I_,I_,I_,I_,I_,I_,I_,I_,O_,O_]) rfl 50 hP32 rfl hK32 ?_
        refine dS (i := 41) (listed' := #[I_,I_,I_,I_,I_,I_,I_,I_,I_,I_,I_,I_,I_,I_,I_,I_,I_,I_,I_,I_,I_,I_,I_,I_,I_,I_,I_,I_,I_,I_,I_,I_,I_,I_,I_,I_,I_,I_,I_,I_,I_,I_,O_]) rfl 50 hP32 rfl hK32 ?_
        refine dT (i := 42) (listed' := #[I_,I_,I_,I_,I_,I_,I_,I_,I_,I_,I_,I_,I_,I_,I_,I_,I_,I_,I_,I_,I_,I_,I_,I_,I_,I_,I_,I_,I_,I_,I_,I_,I_,I_,I_,I_,I_,I_,I_,I_,I_,I_,I_]) rfl hP32 hK32 (fun wS hS => (r_pickT (v := .bool true) rfl rfl)) ?_
        refine d_done (by kernel_rfl) ?_
        refine c_next ?_
        refine c_condT rfl ?_
        refine c_seq ?_
        refine c_reg ?_
        refine sv (r_assign (v := .bool false) rfl) ?_
        refine s_nil ?_
        refine c_next ?_
        refine c_ret ?_
        refine r_block ?_
        refine r_then ?_
        refine r_then ?_
        refine r_block ?_
        refine r_then ?_
        replace h := crossE h hyl19
        refine e_1 (v := .bool false) Try.results38 rfl ?_
        obtain ⟨hO36, e36⟩ := hO31.drop1
        rw [← Option.some.inj h]
        exact ⟨rfl, hO36, (e19.trans (e20.trans (e25.trans (e28.trans (e31.trans e36)))))⟩
      replace h := iF (Int.not_lt.2 h38) h
      refine dT (i := 27) (listed' := #[I_,I_,I_,I_,I_,I_,I_,I_,I_,I_,I_,I_,I_,I_,I_,I_,I_,I_,I_,I_,I_,I_,I_,I_,I_,I_,I_,I_,O_,O_,O_,O_,O_,O_,O_,O_,O_,O_,O_,O_,O_,O_,O_]) rfl hP32 hK32 (fun wS hS => (r_pickF (v := .bool false) rfl rfl)) ?_
      refine dT (i := 28) (listed' := #[I_,I_,I_,I_,I_,I_,I_,I_,I_,I_,I_,I_,I_,I_,I_,I_,I_,I_,I_,I_,I_,I_,I_,I_,I_,I_,I_,I_,I_,O_,O_,O_,O_,O_,O_,O_,O_,O_,O_,O_,O_,O_,O_]) rfl hP32 hK32 (fun wS hS => (r_move (v := .bool false) rfl)) ?_
      refine dG (i := 29) (listed' := #[I_,I_,I_,I_,I_,I_,I_,I_,I_,I_,I_,I_,I_,I_,I_,I_,I_,I_,I_,I_,I_,I_,I_,I_,I_,I_,I_,I_,I_,I_,O_,O_,O_,O_,O_,O_,O_,O_,O_,O_,O_,O_,O_]) rfl 40 hP32 rfl hK32 (fun wS hS => (r_fieldAddr Try.underlying56 rfl I3 (by decide) rfl)) ?_
      refine dG (i := 30) (listed' := #[I_,I_,I_,I_,I_,I_,I_,I_,I_,I_,I_,I_,I_,I_,I_,I_,I_,I_,I_,I_,I_,I_,I_,I_,I_,I_,I_,I_,I_,I_,I_,O_,O_,O_,O_,O_,O_,O_,O_,O_,O_,O_,O_]) rfl 40 hP32 rfl hK32 (fun wS hS => (r_load1 (v := .int _ _) Try.underlying3 rfl rfl (cellB (hS.own.get (i := 0) rfl) rfl rfl))) ?_
      refine dt_gtrG (i := 31) (listed' := #[I_,I_,I_,I_,I_,I_,I_,I_,I_,I_,I_,I_,I_,I_,I_,I_,I_,I_,I_,I_,I_,I_,I_,I_,I_,I_,I_,I_,I_,I_,I_,I_,O_,O_,O_,O_,O_,O_,O_,O_,O_,O_,O_]) (by rfl) (by kernel_rfl) (by rfl) hP32.u 40 (by rfl) rfl hK32 rfl rfl (fun h43 => ?_) (fun h43 => ?_)
      · replace h := iT h43 h
        refine dT (i := 32) (listed' := #[I_,I_,I_,I_,I_,I_,I_,I_,I_,I_,I_,I_,I_,I_,I_,I_,I_,I_,I_,I_,I_,I_,I_,I_,I_,I_,I_,I_,I_,I_,I_,I_,I_,O_,O_,O_,O_,O_,O_,O_,O_,O_,O_]) rfl hP32 hK32 (fun wS hS => (r_pickF (v := .bool true) rfl rfl)) ?_
        refine dT (i := 33) (listed' := #[I_,I_,I_,I_,I_,I_,I_,I_,I_,I_,I_,I_,I_,I_,I_,I_,I_,I_,I_,I_,I_,I_,I_,I_,I_,I_,I_,I_,I_,I_,I_,I_,I_,I_,O_,O_,O_,O_,O_,O_,O_,O_,O_]) rfl hP32 hK32 (fun wS hS => (r_move (v := .bool true) rfl)) ?_
        refine dS (i := 34) (listed' := #[I_,I_,I_,I_,I_,I_,I_,I_,I_,I_,I_,I_,I_,I_,I_,I_,I_,I_,I_,I_,I_,I_,I_,I_,I_,I_,I_,I_,I_,I_,I_,I_,I_,I_,I_,O_,O_,O_,O_,O_,O_,O_,O_]) rfl 45 hP32 rfl hK32 ?_
        refine dS (i := 35) (listed' := #[I_,I_,I_,I_,I_,I_,I_,I_,I_,I_,I_,I_,I_,I_,I_,I_,I_,I_,I_,I_,I_,I_,I_,I_,I_,I_,I_,I_,I_,I_,I_,I_,I_,I_,I_,I_,O_,O_,O_,O_,O_,O_,O_]) rfl 45 hP32 rfl hK32 ?_
        refine dS (i := 36) (listed' := #[I_,I_,I_,I_,I_,I_,I_,I_,I_,I_,I_,I_,I_,I_,I_,I_,I_,I_,I_,I_,I_,I_,I_,I_,I_,I_,I_,I_,I_,I_,I_,I_,I_,I_,I_,I_,I_,O_,O_,O_,O_,O_,O_]) rfl 45 hP32 rfl hK32 ?_
        refine dT (i := 37) (listed' := #[I_,I_,I_,I_,I_,I_,I_,I_,I_,I_,I_,I_,I_,I_,I_,I_,I_,I_,I_,I_,I_,I_,I_,I_,I_,I_,I_,I_,I_,I_,I_,I_,I_,I_,I_,I_,I_,I_,O_,O_,O_,O_,O_]) rfl hP32 hK32 (fun wS hS => (r_pickT (v := .bool true) rfl rfl)) ?_
        refine dT (i := 38) (listed' := #[I_,I_,I_,I_,I_,I_,I_,I_,I_,I_,I_,I_,I_,I_,I_,I_,I_,I_,I_,I_,I_,I_,I_,I_,I_,I_,I_,I_,I_,I_,I_,I_,I_,I_,I_,I_,I_,I_,I_,O_,O_,O_,O_]) rfl hP32 hK32 (fun wS hS => (r_move (v := .bool true) rfl)) ?_
        refine dS (i := 39) (listed' := #[I_,I_,I_,I_,I_,I_,I_,I_,I_,I_,I_,I_,I_,I_,I_,I_,I_,I_,I_,I_,I_,I_,I_,I_,I_,I_,I_,I_,I_,I_,I_,I_,I_,I_,I_,I_,I_,I_,I_,I_,O_,O_,O_]) rfl 50 hP32 rfl hK32 ?_
        refine dS (i := 40) (listed' := #[I_,I_,I_,I_,I_,I_,I_,I_,I_,I_,I_,I_,I_,I_,I_,I_,I_,I_,I_,I_,I_,I_,I_,I_,I_,I_,I_,I_,I_,I_,I_,I_,I_,I_,I_,I_,I_,I_,I_,I_,I_,O_,O_]) rfl 50 hP32 rfl hK32 ?_
        refine dS (i := 41) (listed' := #[I_,I_,I_,I_,I_,I_,I_,I_,I_,I_,I_,I_,I_,I_,I_,I_,I_,I_,I_,I_,I_,I_,I_,I_,I_,I_,I_,I_,I_,I_,I_,I_,I_,I_,I_,I_,I_,I_,I_,I_,I_,I_,O_]) rfl 50 hP32 rfl hK32 ?_
        refine dT (i := 42) (listed' := #[I_,I_,I_,I_,I_,I_,I_,I_,I_,I_,I_,I_,I_,I_,I_,I_,I_,I_,I_,I_,I_,I_,I_,I_,I_,I_,I_,I_,I_,I_,I_,I_,I_,I_,I_,I_,I_,I_,I_,I_,I_,I_,I_]) rfl hP32 hK32 (fun wS hS => (r_pickT (v := .bool true) rfl rfl)) ?_
        refine d_done (by kernel_rfl) ?_
        refine c_next ?_
        refine c_condT rfl ?_
        refine c_seq ?_
        refine c_reg ?_
        refine sv (r_assign (v := .bool false) rfl) ?_
        refine s_nil ?_
        refine c_next ?_
        refine c_ret ?_
        refine r_block ?_
        refine r_then ?_
        refine r_then ?_
        refine r_block ?_
        refine r_then ?_
        replace h := crossE h hyl19
        refine e_1 (v := .bool false) Try.results38 rfl ?_
        obtain ⟨hO37, e37⟩ := hO31.drop1
        rw [← Option.some.inj h]
        exact ⟨rfl, hO37, (e19.trans (e20.trans (e25.trans (e28.trans (e31.trans e37)))))⟩
      replace h := iF (Int.not_lt.2 h43) h
      refine dT (i := 32) (listed' := #[I_,I_,I_,I_,I_,I_,I_,I_,I_,I_,I_,I_,I_,I_,I_,I_,I_,I_,I_,I_,I_,I_,I_,I_,I_,I_,I_,I_,I_,I_,I_,I_,I_,O_,O_,O_,O_,O_,O_,O_,O_,O_,O_]) rfl hP32 hK32 (fun wS hS => (r_pickF (v := .bool false) rfl rfl)) ?_
      refine dT (i := 33) (listed' := #[I_,I_,I_,I_,I_,I_,I_,I_,I_,I_,I_,I_,I_,I_,I_,I_,I_,I_,I_,I_,I_,I_,I_,I_,I_,I_,I_,I_,I_,I_,I_,I_,I_,I_,O_,O_,O_,O_,O_,O_,O_,O_,O_]) rfl hP32 hK32 (fun wS hS => (r_move (v := .bool false) rfl)) ?_
      refine dG (i := 34) (listed' := #[I_,I_,I_,I_,I_,I_,I_,I_,I_,I_,I_,I_,I_,I_,I_,I_,I_,I_,I_,I_,I_,I_,I_,I_,I_,I_,I_,I_,I_,I_,I_,I_,I_,I_,I_,O_,O_,O_,O_,O_,O_,O_,O_]) rfl 45 hP32 rfl hK32 (fun wS hS => (r_fieldAddr Try.underlying56 rfl I3 (by decide) rfl)) ?_
      refine dG (i := 35) (listed' := #[I_,I_,I_,I_,I_,I_,I_,I_,I_,I_,I_,I_,I_,I_,I_,I_,I_,I_,I_,I_,I_,I_,I_,I_,I_,I_,I_,I_,I_,I_,I_,I_,I_,I_,I_,I_,O_,O_,O_,O_,O_,O_,O_]) rfl 45 hP32 rfl hK32 (fun wS hS => (r_load1 (v := .int _ _) Try.underlying3 rfl rfl (cellB (hS.own.get (i := 0) rfl) rfl rfl))) ?_
      refine dt_lssG (i := 36) (listed' := #[I_,I_,I_,I_,I_,I_,I_,I_,I_,I_,I_,I_,I_,I_,I_,I_,I_,I_,I_,I_,I_,I_,I_,I_,I_,I_,I_,I_,I_,I_,I_,I_,I_,I_,I_,I_,I_,O_,O_,O_,O_,O_,O_]) (by rfl) (by kernel_rfl) (by rfl) hP32.u 45 (by rfl) rfl hK32 rfl rfl (fun h48 => ?_) (fun h48 => ?_)
      · replace h := iT h48 h
        refine dT (i := 37) (listed' := #[I_,I_,I_,I_,I_,I_,I_,I_,I_,I_,I_,I_,I_,I_,I_,I_,I_,I_,I_,I_,I_,I_,I_,I_,I_,I_,I_,I_,I_,I_,I_,I_,I_,I_,I_,I_,I_,I_,O_,O_,O_,O_,O_]) rfl hP32 hK32 (fun wS hS => (r_pickF (v := .bool true) rfl rfl)) ?_
        refine dT (i := 38) (listed' := #[I_,I_,I_,I_,I_,I_,I_,I_,I_,I_,I_,I_,I_,I_,I_,I_,I_,I_,I_,I_,I_,I_,I_,I_,I_,I_,I_,I_,I_,I_,I_,I_,I_,I_,I_,I_,I_,I_,I_,O_,O_,O_,O_]) rfl hP32 hK32 (fun wS hS => (r_move (v := .bool true) rfl)) ?_
        refine dS (i := 39) (listed' := #[I_,I_,I_,I_,I_,I_,I_,I_,I_,I_,I_,I_,I_,I_,I_,I_,I_,I_,I_,I_,I_,I_,I_,I_,I_,I_,I_,I_,I_,I_,I_,I_,I_,I_,I_,I_,I_,I_,I_,I_,O_,O_,O_]) rfl 50 hP32 rfl hK32 ?_
        refine dS (i := 40) (listed' := #[I_,I_,I_,I_,I_,I_,I_,I_,I_,I_,I_,I_,I_,I_,I_,I_,I_,I_,I_,I_,I_,I_,I_,I_,I_,I_,I_,I_,I_,I_,I_,I_,I_,I_,I_,I_,I_,I_,I_,I_,I_,O_,O_]) rfl 50 hP32 rfl hK32 ?_
        refine dS (i := 41) (listed' := #[I_,I_,I_,I_,I_,I_,I_,I_,I_,I_,I_,I_,I_,I_,I_,I_,I_,I_,I_,I_,I_,I_,I_,I_,I_,I_,I_,I_,I_,I_,I_,I_,I_,I_,I_,I_,I_,I_,I_,I_,I_,I_,O_]) rfl 50 hP32 rfl hK32 ?_
        refine dT (i := 42) (listed' := #[I_,I_,I_,I_,I_,I_,I_,I_,I_,I_,I_,I_,I_,I_,I_,I_,I_,I_,I_,I_,I_,I_,I_,I_,I_,I_,I_,I_,I_,I_,I_,I_,I_,I_,I_,I_,I_,I_,I_,I_,I_,I_,I_]) rfl hP32 hK32 (fun wS hS => (r_pickT (v := .bool true) rfl rfl)) ?_
        refine d_done (by kernel_rfl) ?_
        refine c_next ?_
        refine c_condT rfl ?_
        refine c_seq ?_
        refine c_reg ?_
        refine sv (r_assign (v := .bool false) rfl) ?_
        refine s_nil ?_
        refine c_next ?_
        refine c_ret ?_
        refine r_block ?_
        refine r_then ?_
        refine r_then ?_
        refine r_block ?_
        refine r_then ?_
        replace h := crossE h hyl19
        refine e_1 (v := .bool false) Try.results38 rfl ?_
        obtain ⟨hO38, e38⟩ := hO31.drop1
        rw [← Option.some.inj h]
        exact ⟨rfl, hO38, (e19.trans (e20.trans (e25.trans (e28.trans (e31.trans e38)))))⟩
      replace h := iF (Int.not_lt.2 h48) h
      refine dT (i := 37) (listed' := #[I_,I_,I_,I_,I_,I_,I_,I_,I_,I_,I_,I_,I_,I_,I_,I_,I_,I_,I_,I_,I_,I_,I_,I_,I_,I_,I_,I_,I_,I_,I_,I_,I_,I_,I_,I_,I_,I_,O_,O_,O_,O_,O_]) rfl hP32 hK32 (fun wS hS => (r_pickF (v := .bool false) rfl rfl)) ?_
      refine dT (i := 38) (listed' := #[I_,I_,I_,I_,I_,I_,I_,I_,I_,I_,I_,I_,I_,I_,I_,I_,I_,I_,I_,I_,I_,I_,I_,I_,I_,I_,I_,I_,I_,I_,I_,I_,I_,I_,I_,I_,I_,I_,I_,O_,O_,O_,O_]) rfl hP32 hK32 (fun wS hS => (r_move (v := .bool false) rfl)) ?_
      refine dG (i := 39) (listed' := #[I_,I_,I_,I_,I_,I_,I_,I_,I_,I_,I_,I_,I_,I_,I_,I_,I_,I_,I_,I_,I_,I_,I_,I_,I_,I_,I_,I_,I_,I_,I_,I_,I_,I_,I_,I_,I_,I_,I_,I_,O_,O_,O_]) rfl 50 hP32 rfl hK32 (fun wS hS => (r_fieldAddr Try.underlying56 rfl I3 (by decide) rfl)) ?_
      refine dG (i := 40) (listed' := #[I_,I_,I_,I_,I_,I_,I_,I_,I_,I_,I_,I_,I_,I_,I_,I_,I_,I_,I_,I_,I_,I_,I_,I_,I_,I_,I_,I_,I_,I_,I_,I_,I_,I_,I_,I_,I_,I_,I_,I_,I_,O_,O_]) rfl 50 hP32 rfl hK32 (fun wS hS => (r_load1 (v := .int _ _) Try.underlying3 rfl rfl (cellB (hS.own.get (i := 0) rfl) rfl rfl))) ?_
      refine dt_gtrG (i := 41) (listed' := #[I_,I_,I_,I_,I_,I_,I_,I_,I_,I_,I_,I_,I_,I_,I_,I_,I_,I_,I_,I_,I_,I_,I_,I_,I_,I_,I_,I_,I_,I_,I_,I_,I_,I_,I_,I_,I_,I_,I_,I_,I_,I_,O_]) (by rfl) (by kernel_rfl) (by rfl) hP32.u 50 (by rfl) rfl hK32 rfl rfl (fun h53 => ?_) (fun h53 => ?_)
      · replace h := iT h53 h
        refine dT (i := 42) (listed' := #[I_,I_,I_,I_,I_,I_,I_,I_,I_,I_,I_,I_,I_,I_,I_,I_,I_,I_,I_,I_,I_,I_,I_,I_,I_,I_,I_,I_,I_,I_,I_,I_,I_,I_,I_,I_,I_,I_,I_,I_,I_,I_,I_]) rfl hP32 hK32 (fun wS hS => (r_pickF (v := .bool true) rfl rfl)) ?_
        refine d_done (by kernel_rfl) ?_
        refine c_next ?_
        refine c_condT rfl ?_
        refine c_seq ?_
        refine c_reg ?_
        refine sv (r_assign (v := .bool false) rfl) ?_
        refine s_nil ?_
        refine c_next ?_
        refine c_ret ?_
        refine r_block ?_
        refine r_then ?_
        refine r_then ?_
        refine r_block ?_
        refine r_then ?_
        replace h := crossE h hyl19
        refine e_1 (v := .bool false) Try.results38 rfl ?_
        obtain ⟨hO39, e39⟩ := hO31.drop1
        rw [← Option.some.inj h]
        exact ⟨rfl, hO39, (e19.trans (e20.trans (e25.trans (e28.trans (e31.trans e39)))))⟩
      replace h := iF (Int.not_lt.2 h53) h
      refine dT (i := 42) (listed' := #[I_,I_,I_,I_,I_,I_,I_,I_,I_,I_,I_,I_,I_,I_,I_,I_,I_,I_,I_,I_,I_,I_,I_,I_,I_,I_,I_,I_,I_,I_,I_,I_,I_,I_,I_,I_,I_,I_,I_,I_,I_,I_,I_]) rfl hP32 hK32 (fun wS hS => (r_pickF (v := .bool false) rfl rfl)) ?_
      refine d_done (by kernel_rfl) ?_
      refine c_next ?_
      refine c_condF rfl ?_
      refine c_skip ?_
      refine x_norm ?_
      refine c_next ?_
      refine c_reg ?_
      refine sv (r_addI (a := xl1_t7) (b := 1) rfl rfl) ?_
      refine sv (r_move (v := .int _ _) rfl) ?_
      refine s_nil ?_
      refine l_end (m' := kl19) (Nat.lt_succ_self _) ?_
      rw [← Option.some.inj h] at hyl19
      obtain ⟨hO40, e40⟩ := hO31.drop1
      exact ⟨(w64 (xl1_t7 + 1)), hyl19, rfl, rfl, rfl, rfl, hO40, (e19.trans (e20.trans (e25.trans (e28.trans (e31.trans e40)))))⟩
    replace h := iF (Int.not_lt.2 h22) h
    refine dG (i := 11) (listed' := #[I_,I_,I_,I_,I_,I_,I_,I_,I_,I_,I_,I_,O_,O_,O_,O_,O_,O_,O_,O_,O_,O_,O_,O_,O_,O_,O_,O_,O_,O_,O_,O_,O_,O_,O_,O_,O_,O_,O_,O_,O_,O_,O_]) rfl 20 hP32 rfl hK32 (fun wS hS => (r_move (v := .bool false) rfl)) ?_
    refine dS (i := 12) (listed' := #[I_,I_,I_,I_,I_,I_,I_,I_,I_,I_,I_,I_,I_,O_,O_,O_,O_,O_,O_,O_,O_,O_,O_,O_,O_,O_,O_,O_,O_,O_,O_,O_,O_,O_,O_,O_,O_,O_,O_,O_,O_,O_,O_]) rfl 23 hP32 rfl hK32 ?_
    refine dS (i := 13) (listed' := #[I_,I_,I_,I_,I_,I_,I_,I_,I_,I_,I_,I_,I_,I_,O_,O_,O_,O_,O_,O_,O_,O_,O_,O_,O_,O_,O_,O_,O_,O_,O_,O_,O_,O_,O_,O_,O_,O_,O_,O_,O_,O_,O_]) rfl 23 hP32 rfl hK32 ?_
    refine dS (i := 14) (listed' := #[I_,I_,I_,I_,I_,I_,I_,I_,I_,I_,I_,I_,I_,I_,I_,O_,O_,O_,O_,O_,O_,O_,O_,O_,O_,O_,O_,O_,O_,O_,O_,O_,O_,O_,O_,O_,O_,O_,O_,O_,O_,O_,O_]) rfl 23 hP32 rfl hK32 ?_
    refine dS (i := 15) (listed' := #[I_,I_,I_,I_,I_,I_,I_,I_,I_,I_,I_,I_,I_,I_,I_,I_,O_,O_,O_,O_,O_,O_,O_,O_,O_,O_,O_,O_,O_,O_,O_,O_,O_,O_,O_,O_,O_,O_,O_,O_,O_,O_,O_]) rfl 23 hP32 rfl hK32 ?_
    refine dS (i := 16) (listed' := #[I_,I_,I_,I_,I_,I_,I_,I_,I_,I_,I_,I_,I_,I_,I_,I_,I_,O_,O_,O_,O_,O_,O_,O_,O_,O_,O_,O_,O_,O_,O_,O_,O_,O_,O_,O_,O_,O_,O_,O_,O_,O_,O_]) rfl 23 hP32 rfl hK32 ?_
    refine dS (i := 17) (listed' := #[I_,I_,I_,I_,I_,I_,I_,I_,I_,I_,I_,I_,I_,I_,I_,I_,I_,I_,O_,O_,O_,O_,O_,O_,O_,O_,O_,O_,O_,O_,O_,O_,O_,O_,O_,O_,O_,O_,O_,O_,O_,O_,O_]) rfl 23 hP32 rfl hK32 ?_
    refine dS (i := 18) (listed' := #[I_,I_,I_,I_,I_,I_,I_,I_,I_,I_,I_,I_,I_,I_,I_,I_,I_,I_,I_,O_,O_,O_,O_,O_,O_,O_,O_,O_,O_,O_,O_,O_,O_,O_,O_,O_,O_,O_,O_,O_,O_,O_,O_]) rfl 23 hP32 rfl hK32 ?_
    refine dS (i := 19) (listed' := #[I_,I_,I_,I_,I_,I_,I_,I_,I_,I_,I_,I_,I_,I_,I_,I_,I_,I_,I_,I_,O_,O_,O_,O_,O_,O_,O_,O_,O_,O_,O_,O_,O_,O_,O_,O_,O_,O_,O_,O_,O_,O_,O_]) rfl 23 hP32 rfl hK32 ?_
    refine dS (i := 20) (listed' := #[I_,I_,I_,I_,I_,I_,I_,I_,I_,I_,I_,I_,I_,I_,I_,I_,I_,I_,I_,I_,I_,O_,O_,O_,O_,O_,O_,O_,O_,O_,O_,O_,O_,O_,O_,O_,O_,O_,O_,O_,O_,O_,O_]) rfl 23 hP32 rfl hK32 ?_
    refine dG (i := 21) (listed' := #[I_,I_,I_,I_,I_,I_,I_,I_,I_,I_,I_,I_,I_,I_,I_,I_,I_,I_,I_,I_,I_,I_,O_,O_,O_,O_,O_,O_,O_,O_,O_,O_,O_,O_,O_,O_,O_,O_,O_,O_,O_,O_,O_]) rfl 20 hP32 rfl hK32 (fun wS hS => (r_pickF (v := .bool false) rfl rfl)) ?_
    refine dT (i := 22) (listed' := #[I_,I_,I_,I_,I_,I_,I_,I_,I_,I_,I_,I_,I_,I_,I_,I_,I_,I_,I_,I_,I_,I_,I_,O_,O_,O_,O_,O_,O_,O_,O_,O_,O_,O_,O_,O_,O_,O_,O_,O_,O_,O_,O_]) rfl hP32 hK32 (fun wS hS => (r_pickF (v := .bool false) rfl rfl)) ?_
    refine dT (i := 23) (listed' := #[I_,I_,I_,I_,I_,I_,I_,I_,I_,I_,I_,I_,I_,I_,I_,I_,I_,I_,I_,I_,I_,I_,I_,I_,O_,O_,O_,O_,O_,O_,O_,O_,O_,O_,O_,O_,O_,O_,O_,O_,O_,O_,O_]) rfl hP32 hK32 (fun wS hS => (r_move (v := .bool false) rfl)) ?_
    refine dG (i := 24) (listed' := #[I_,I_,I_,I_,I_,I_,I_,I_,I_,I_,I_,I_,I_,I_,I_,I_,I_,I_,I_,I_,I_,I_,I_,I_,I_,O_,O_,O_,O_,O_,O_,O_,O_,O_,O_,O_,O_,O_,O_,O_,O_,O_,O_]) rfl 35 hP32 rfl hK32 (fun wS hS => (r_fieldAddr Try.underlying56 rfl I3 (by decide) rfl)) ?_
    refine dG (i := 25) (listed' := #[I_,I_,I_,I_,I_,I_,I_,I_,I_,I_,I_,I_,I_,I_,I_,I_,I_,I_,I_,I_,I_,I_,I_,I_,I_,I_,O_,O_,O_,O_,O_,O_,O_,O_,O_,O_,O_,O_,O_,O_,O_,O_,O_]) rfl 35 hP32 rfl hK32 (fun wS hS => (r_load1 (v := .int _ _) Try.underlying3 rfl rfl (cellB (hS.own.get (i := 0) rfl) rfl rfl))) ?_
    refine dt_lssG (i := 26) (listed' := #[I_,I_,I_,I_,I_,I_,I_,I_,I_,I_,I_,I_,I_,I_,I_,I_,I_,I_,I_,I_,I_,I_,I_,I_,I_,I_,I_,O_,O_,O_,O_,O_,O_,O_,O_,O_,O_,O_,O_,O_,O_,O_,O_]) (by rfl) (by kernel_rfl) (by rfl) hP32.u 35 (by rfl) rfl hK32 rfl rfl (fun h38 => ?_) (fun h38 => ?_)
    · replace h := iT h38 h
      refine dT (i := 27) (listed' := #[I_,I_,I_,I_,I_,I_,I_,I_,I_,I_,I_,I_,I_,I_,I_,I_,I_,I_,I_,I_,I_,I_,I_,I_,I_,I_,I_,I_,O_,O_,O_,O_,O_,O_,O_,O_,O_,O_,O_,O_,O_,O_,O_]) rfl hP32 hK32 (fun wS hS => (r_pickF (v := .bool true) rfl rfl)) ?_
      refine dT (i := 28) (listed' := #[I_,I_,I_,I_,I_,I_,I_,I_,I_,I_,I_,I_,I_,I_,I_,I_,I_,I_,I_,I_,I_,I_,I_,I_,I_,I_,I_,I_,I_,O_,O_,O_,O_,O_,O_,O_,O_,O_,O_,O_,O_,O_,O_]) rfl hP32 hK32 (fun wS hS => (r_move (v := .bool true) rfl)) ?_
      refine dS (i := 29) (listed' := #[I_,I_,I_,I_,I_,I_,I_,I_,I_,I_,I_,I_,I_,I_,I_,I_,I_,I_,I_,I_,I_,I_,I_,I_,I_,I_,I_,I_,I_,I_,O_,O_,O_,O_,O_,O_,O_,O_,O_,O_,O_,O_,O_]) rfl 40 hP32 rfl hK32 ?_
      refine dS (i := 30) (listed' := #[I_,I_,I_,I_,I_,I_,I_,I_,I_,I_,I_,I_,I_,I_,I_,I_,I_,I_,I_,I_,I_,I_,I_,I_,I_,I_,I_,I_,I_,I_,I_,O_,O_,O_,O_,O_,O_,O_,O_,O_,O_,O_,O_]) rfl 40 hP32 rfl hK32 ?_
      refine dS (i := 31) (listed' := #[I_,I_,I_,I_,I_,I_,I_,I_,I_,I_,I_,I_,I_,I_,I_,I_,I_,I_,I_,I_,I_,I_,I_,I_,I_,I_,I_,I_,I_,I_,I_,I_,O_,O_,O_,O_,O_,O_,O_,O_,O_,O_,O_]) rfl 40 hP32 rfl hK32 ?_
      refine dT (i := 32) (listed' := #[I_,I_,I_,I_,I_,I_,I_,I_,I_,I_,I_,I_,I_,I_,I_,I_,I_,I_,I_,I_,I_,I_,I_,I_,I_,I_,I_,I_,I_,I_,I_,I_,I_,O_,O_,O_,O_,O_,O_,O_,O_,O_,O_]) rfl hP32 hK32 (fun wS hS => (r_pickT (v := .bool true) rfl rfl)) ?_
      refine dT (i := 33) (listed' := #[I_,I_,I_,I_,I_,I_,I_,I_,I_,I_,I_,I_,I_,I_,I_,I_,I_,I_,I_,I_,I_,I_,I_,I_,I_,I_,I_,I_,I_,I_,I_,I_,I_,I_,O_,O_,O_,O_,O_,O_,O_,O_,O_]) rfl hP32 hK32 (fun wS hS => (r_move (v := .bool true) rfl)) ?_
      refine dS (i := 34) (listed' := #[I_,I_,I_,I_,I_,I_,I_,I_,I_,I_,I_,I_,I_,I_,I_,I_,I_,I_,I_,I_,I_,I_,I_,I_,I_,I_,I_,I_,I_,I_,I_,I_,I_,I_,I_,O_,O_,O_,O_,O_,O_,O_,O_]) rfl 45 hP32 rfl hK32 ?_
      refine dS (i := 35) (listed' := #[I_,I_,I_,I_,I_,I_,I_,I_,I_,I_,I_,I_,I_,I_,I_,I_,I_,I_,I_,I_,I_,I_,I_,I_,I_,I_,I_,I_,I_,I_,I_,I_,I_,I_,I_,I_,O_,O_,O_,O_,O_,O_,O_]) rfl 45 hP32 rfl hK32 ?_
      refine dS (i := 36) (listed' := #[I_,I_,I_,I_,I_,I_,I_,I_,I_,I_,I_,I_,I_,I_,I_,I_,I_,I_,I_,I_,I_,I_,I_,I_,I_,I_,I_,I_,I_,I_,I_,I_,I_,I_,I_,I_,I_,O_,O_,O_,O_,O_,O_]) rfl 45 hP32 rfl hK32 ?_
      refine dT (i := 37) (listed' := #[I_,I_,I_,I_,I_,I_,I_,I_,I_,I_,I_,I_,I_,I_,I_,I_,I_,I_,I_,I_,I_,I_,I_,I_,I_,I_,I_,I_,I_,I_,I_,I_,I_,I_,I_,I_,I_,I_,O_,O_,O_,O_,O_]) rfl hP32 hK32 (fun wS hS => (r_pickT (v := .bool true) rfl rfl)) ?_
      refine dT (i := 38) (listed' := #[I_,I_,I_,I_,I_,I_,I_,I_,I_,I_,I_,I_,I_,I_,I_,I_,I_,I_,I_,I_,I_,I_,I_,I_,I_,I_,I_,I_,I_,I_,I_,I_,I_,I_,I_,I_,I_,I_,I_,O_,O_,O_,O_]) rfl hP32 hK32 (fun wS hS => (r_move (v := .bool true) rfl)) ?_
      refine dS (i := 39) (listed' := #[I_,I_,I_,I_,I_,I_,I_,I_,I_,I_,I_,I_,I_,I_,I_,I_,I_,I_,I_,I_,I_,I_,I_,I_,I_,I_,I_,I_,I_,I_,I_,I_,I_,I_,I_,I_,I_,I_,I_,I_,O_,O_,O_]) rfl 50 hP32 rfl hK32 ?_
      refine dS (i := 40) (listed' := #[I_,I_,I_,I_,I_,I_,I_,I_,I_,I_,I_,I_,I_,I_,I_,I_,I_,I_,I_,I_,I_,I_,I_,I_,I_,I_,I_,I_,I_,I_,I_,I_,I_,I_,I_,I_,I_,I_,I_,I_,I_,O_,O_]) rfl 50 hP32 rfl hK32 ?_
      refine dS (i := 41) (listed' := #[I_,I_,I_,I_,I_,I_,I_,I_,I_,I_,I_,I_,I_,I_,I_,I_,I_,I_,I_,I_,I_,I_,I_,I_,I_,I_,I_,I_,I_,I_,I_,I_,I_,I_,I_,I_,I_,I_,I_,I_,I_,I_,O_]) rfl 50 hP32 rfl hK32 ?_
      refine dT (i := 42) (listed' := #[I_,I_,I_,I_,I_,I_,I_,I_,I_,I_,I_,I_,I_,I_,I_,I_,I_,I_,I_,I_,I_,I_,I_,I_,I_,I_,I_,I_,I_,I_,I_,I_,I_,I_,I_,I_,I_,I_,I_,I_,I_,I_,I_]) rfl hP32 hK32 (fun wS hS => (r_pickT (v := .bool true) rfl rfl)) ?_
      refine d_done (by kernel_rfl) ?_
      refine c_next ?_
      refine c_condT rfl ?_
      refine c_seq ?_
      refine c_reg ?_
      refine sv (r_assign (v := .bool false) rfl) ?_
      refine s_nil ?_
      refine c_next ?_
      refine c_ret ?_
      refine r_block ?_
      refine r_then ?_
      refine r_then ?_
      refine r_block ?_
      refine r_then ?_
      replace h := crossE h hyl19
      refine e_1 (v := .bool false) Try.results38 rfl ?_
      obtain ⟨hO41, e41⟩ := hO31.drop1
      rw [← Option.some.inj h]
      exact ⟨rfl, hO41, (e19.trans (e20.trans (e25.trans (e28.trans (e31.trans e41)))))⟩
    replace h := iF (Int.not_lt.2 h38) h
    refine dT (i := 27) (listed' := #[I_,I_,I_,I_,I_,I_,I_,I_,I_,I_,I_,I_,I_,I_,I_,I_,I_,I_,I_,I_,I_,I_,I_,I_,I_,I_,I_,I_,O_,O_,O_,O_,O_,O_,O_,O_,O_,O_,O_,O_,O_,O_,O_]) rfl hP32 hK32 (fun wS hS => (r_pickF (v := .bool false) rfl rfl)) ?_
    refine dT (i := 28) (listed' := #[I_,I_,I_,I_,I_,I_,I_,I_,I_,I_,I_,I_,I_,I_,I_,I_,I_,I_,I_,I_,I_,I_,I_,I_,I_,I_,I_,I_,I_,O_,O_,O_,O_,O_,O_,O_,O_,O_,O_,O_,O_,O_,O_]) rfl hP32 hK32 (fun wS hS => (r_move (v := .bool false) rfl)) ?_
    refine dG (i := 29) (listed' := #[I_,I_,I_,I_,I_,I_,I_,I_,I_,I_,I_,I_,I_,I_,I_,I_,I_,I_,I_,I_,I_,I_,I_,I_,I_,I_,I_,I_,I_,I_,O_,O_,O_,O_,O_,O_,O_,O_,O_,O_,O_,O_,O_]) rfl 40 hP32 rfl hK32 (fun wS hS => (r_fieldAddr Try.underlying56 rfl I3 (by decide) rfl)) ?_
    refine dG (i := 30) (listed' := #[I_,I_,I_,I_,I_,I_,I_,I_,I_,I_,I_,I_,I_,I_,I_,I_,I_,I_,I_,I_,I_,I_,I_,I_,I_,I_,I_,I_,I_,I_,I_,O_,O_,O_,O_,O_,O_,O_,O_,O_,O_,O_,O_]) rfl 40 hP32 rfl hK32 (fun wS hS => (r_load1 (v := .int _ _) Try.underlying3 rfl rfl (cellB (hS.own.get (i := 0) rfl) rfl rfl))) ?_
    refine dt_gtrG (i := 31) (listed' := #[I_,I_,I_,I_,I_,I_,I_,I_,I_,I_,I_,I_,I_,I_,I_,I_,I_,I_,I_,I_,I_,I_,I_,I_,I_,I_,I_,I_,I_,I_,I_,I_,O_,O_,O_,O_,O_,O_,O_,O_,O_,O_,O_]) (by rfl) (by kernel_rfl) (by rfl) hP32.u 40 (by rfl) rfl hK32 rfl rfl (fun h43 => ?_) (fun h43 => ?_)
    · replace h := iT h43 h
      refine dT (i := 32) (listed' := #[I_,I_,I_,I_,I_,I_,I_,I_,I_,I_,I_,I_,I_,I_,I_,I_,I_,I_,I_,I_,I_,I_,I_,I_,I_,I_,I_,I_,I_,I_,I_,I_,I_,O_,O_,O_,O_,O_,O_,O_,O_,O_,O_]) rfl hP32 hK32 (fun wS hS => (r_pickF (v := .bool true) rfl rfl)) ?_
      refine dT (i := 33) (listed' := #[I_,I_,I_,I_,I_,I_,I_,I_,I_,I_,I_,I_,I_,I_,I_,I_,I_,I_,I_,I_,I_,I_,I_,I_,I_,I_,I_,I_,I_,I_,I_,I_,I_,I_,O_,O_,O_,O_,O_,O_,O_,O_,O_]) rfl hP32 hK32 (fun wS hS => (r_move (v := .bool true) rfl)) ?_
      refine dS (i := 34) (listed' := #[I_,I_,I_,I_,I_,I_,I_,I_,I_,I_,I_,I_,I_,I_,I_,I_,I_,I_,I_,I_,I_,I_,I_,I_,I_,I_,I_,I_,I_,I_,I_,I_,I_,I_,I_,O_,O_,O_,O_,O_,O_,O_,O_]) rfl 45 hP32 rfl hK32 ?_
      refine dS (i := 35) (listed' := #[I_,I_,I_,I_,I_,I_,I_,I_,I_,I_,I_,I_,I_,I_,I_,I_,I_,I_,I_,I_,I_,I_,I_,I_,I_,I_,I_,I_,I_,I_,I_,I_,I_,I_,I_,I_,O_,O_,O_,O_,O_,O_,O_]) rfl 45 hP32 rfl hK32 ?_
      refine dS (i := 36) (listed' := #[I_,I_,I_,I_,I_,I_,I_,I_,I_,I_,I_,I_,I_,I_,I_,I_,I_,I_,I_,I_,I_,I_,I_,I_,I_,I_,I_,I_,I_,I_,I_,I_,I_,I_,I_,I_,I_,O_,O_,O_,O_,O_,O_]) rfl 45 hP32 rfl hK32 ?_
      refine dT (i := 37) (listed' := #[I_,I_,I_,I_,I_,I_,I_,I_,I_,I_,I_,I_,I_,I_,I_,I_,I_,I_,I_,I_,I_,I_,I_,I_,I_,I_,I_,I_,I_,I_,I_,I_,I_,I_,I_,I_,I_,I_,O_,O_,O_,O_,O_]) rfl hP32 hK32 (fun wS hS => (r_pickT (v := .bool true) rfl rfl)) ?_
      refine dT (i := 38) (listed' := #[I_,I_,I_,I_,I_,I_,I_,I_,I_,I_,I_,I_,I_,I_,I_,I_,I_,I_,I_,I_,I_,I_,I_,I_,I_,I_,I_,I_,I_,I_,I_,I_,I_,I_,I_,I_,I_,I_,I_,O_,O_,O_,O_]) rfl hP32 hK32 (fun wS hS => (r_move (v := .bool true) rfl)) ?_
      refine dS (i := 39) (listed' := #[I_,I_,I_,I_,I_,I_,I_,I_,I_,I_,I_,I_,I_,I_,I_,I_,I_,I_,I_,I_,I_,I_,I_,I_,I_,I_,I_,I_,I_,I_,I_,I_,I_,I_,I_,I_,I_,I_,I_,I_,O_,O_,O_]) rfl 50 hP32 rfl hK32 ?_
      refine dS (i := 40) (listed' := #[I_,I_,I_,I_,I_,I_,I_,I_,I_,I_,I_,I_,I_,I_,I_,I_,I_,I_,I_,I_,I_,I_,I_,I_,I_,I_,I_,I_,I_,I_,I_,I_,I_,I_,I_,I_,I_,I_,I_,I_,I_,O_,O_]) rfl 50 hP32 rfl hK32 ?_
      refine dS (i := 41) (listed' := #[I_,I_,I_,I_,I_,I_,I_,I_,I_,I_,I_,I_,I_,I_,I_,I_,I_,I_,I_,I_,I_,I_,I_,I_,I_,I_,I_,I_,I_,I_,I_,I_,I_,I_,I_,I_,I_,I_,I_,I_,I_,I_,O_]) rfl 50 hP32 rfl hK32 ?_
      refine dT (i := 42) (listed' := #[I_,I_,I_,I_,I_,I_,I_,I_,I_,I_,I_,I_,I_,I_,I_,I_,I_,I_,I_,I_,I_,I_,I_,I_,I_,I_,I_,I_,I_,I_,I_,I_,I_,I_,I_,I_,I_,I_,I_,I_,I_,I_,I_]) rfl hP32 hK32 (fun wS hS => (r_pickT (v := .bool true) rfl rfl)) ?_
      refine d_done (by kernel_rfl) ?_
      refine c_next ?_
      refine c_condT rfl ?_
      refine c_seq ?_
      refine c_reg ?_
      refine sv (r_assign (v := .bool false) rfl) ?_
      refine s_nil ?_
      refine c_next ?_
      refine c_ret ?_
      refine r_block ?_
      refine r_then ?_
      refine r_then ?_
      refine r_block ?_
      refine r_then ?_
      replace h := crossE h hyl19
      refine e_1 (v := .bool false) Try.results38 rfl ?_
      obtain ⟨hO42, e42⟩ := hO31.drop1
      rw [← Option.some.inj h]
      exact ⟨rfl, hO42, (e19.trans (e20.trans (e25.trans (e28.trans (e31.trans e42)))))⟩
    replace h := iF (Int.not_lt.2 h43) h
    refine dT (i := 32) (listed' := #[I_,I_,I_,I_,I_,I_,I_,I_,I_,I_,I_,I_,I_,I_,I_,I_,I_,I_,I_,I_,I_,I_,I_,I_,I_,I_,I_,I_,I_,I_,I_,I_,I_,O_,O_,O_,O_,O_,O_,O_,O_,O_,O_]) rfl hP32 hK32 (fun wS hS => (r_pickF (v := .bool false) rfl rfl)) ?_
    refine dT (i := 33) (listed' := #[I_,I_,I_,I_,I_,I_,I_,I_,I_,I_,I_,I_,I_,I_,I_,I_,I_,I_,I_,I_,I_,I_,I_,I_,I_,I_,I_,I_,I_,I_,I_,I_,I_,I_,O_,O_,O_,O_,O_,O_,O_,O_,O_]) rfl hP32 hK32 (fun wS hS => (r_move (v := .bool false) rfl)) ?_
    refine dG (i := 34) (listed' := #[I_,I_,I_,I_,I_,I_,I_,I_,I_,I_,I_,I_,I_,I_,I_,I_,I_,I_,I_,I_,I_,I_,I_,I_,I_,I_,I_,I_,I_,I_,I_,I_,I_,I_,I_,O_,O_,O_,O_,O_,O_,O_,O_]) rfl 45 hP32 rfl hK32 (fun wS hS => (r_fieldAddr Try.underlying56 rfl I3 (by decide) rfl)) ?_
    refine dG (i := 35) (listed' := #[I_,I_,I_,I_,I_,I_,I_,I_,I_,I_,I_,I_,I_,I_,I_,I_,I_,I_,I_,I_,I_,I_,I_,I_,I_,I_,I_,I_,I_,I_,I_,I_,I_,I_,I_,I_,O_,O_,O_,O_,O_,O_,O_]) rfl 45 hP32 rfl hK32 (fun wS hS => (r_load1 (v := .int _ _) Try.underlying3 rfl rfl (cellB (hS.own.get (i := 0) rfl) rfl rfl))) ?_
    refine dt_lssG (i := 36) (listed' := #[I_,I_,I_,I_,I_,I_,I_,I_,I_,I_,I_,I_,I_,I_,I_,I_,I_,I_,I_,I_,I_,I_,I_,I_,I_,I_,I_,I_,I_,I_,I_,I_,I_,I_,I_,I_,I_,O_,O_,O_,O_,O_,O_]) (by rfl) (by kernel_rfl) (by rfl) hP32.u 45 (by rfl) rfl hK32 rfl rfl (fun h48 => ?_) (fun h48 => ?_)
    · replace h := iT h48 h
      refine dT (i := 37) (listed' := #[I_,I_,I_,I_,I_,I_,I_,I_,I_,I_,I_,I_,I_,I_,I_,I_,I_,I_,I_,I_,I_,I_,I_,I_,I_,I_,I_,I_,I_,I_,I_,I_,I_,I_,I_,I_,I_,I_,O_,O_,O_,O_,O_]) rfl hP32 hK32 (fun wS hS => (r_pickF (v := .bool true) rfl rfl)) ?_
      refine dT (i := 38) (listed' := #[I_,I_,I_,I_,I_,I_,I_,I_,I_,I_,I_,I_,I_,I_,I_,I_,I_,I_,I_,I_,I_,I_,I_,I_,I_,I_,I_,I_,I_,I_,I_,I_,I_,I_,I_,I_,I_,I_,I_,O_,O_,O_,O_]) rfl hP32 hK32 (fun wS hS => (r_move (v := .bool true) rfl)) ?_
      refine dS (i := 39) (listed' := #[I_,I_,I_,I_,I_,I_,I_,I_,I_,I_,I_,I_,I_,I_,I_,I_,I_,I_,I_,I_,I_,I_,I_,I_,I_,I_,I_,I_,I_,I_,I_,I_,I_,I_,I_,I_,I_,I_,I_,I_,O_,O_,O_]) rfl 50 hP32 rfl hK32 ?_
      refine dS (i := 40) (listed' := #[I_,I_,I_,I_,I_,I_,I_,I_,I_,I_,I_,I_,I_,I_,I_,I_,I_,I_,I_,I_,I_,I_,I_,I_,I_,I_,I_,I_,I_,I_,I_,I_,I_,I_,I_,I_,I_,I_,I_,I_,I_,O_,O_]) rfl 50 hP32 rfl hK32 ?_
      refine dS (i := 41) (listed' := #[I_,I_,I_,I_,I_,I_,I_,I_,I_,I_,I_,I_,I_,I_,I_,I_,I_,I_,I_,I_,I_,I_,I_,I_,I_,I_,I_,I_,I_,I_,I_,I_,I_,I_,I_,I_,I_,I_,I_,I_,I_,I_,O_]) rfl 50 hP32 rfl hK32 ?_
      refine dT (i := 42) (listed' := #[I_,I_,I_,I_,I_,I_,I_,I_,I_,I_,I_,I_,I_,I_,I_,I_,I_,I_,I_,I_,I_,I_,I_,I_,I_,I_,I_,I_,I_,I_,I_,I_,I_,I_,I_,I_,I_,I_,I_,I_,I_,I_,I_]) rfl hP32 hK32 (fun wS hS => (r_pickT (v := .bool true) rfl rfl)) ?_
      refine d_done (by kernel_rfl) ?_
      refine c_next ?_
      refine c_condT rfl ?_
      refine c_seq ?_
      refine c_reg ?_
      refine sv (r_assign (v := .bool false) rfl) ?_
      refine s_nil ?_
      refine c_next ?_
      refine c_ret ?_
      refine r_block ?_
      refine r_then ?_
      refine r_then ?_
      refine r_block ?_
      refine r_then ?_
      replace h := crossE h hyl19
      refine e_1 (v := .bool false) Try.results38 rfl ?_
      obtain ⟨hO43, e43⟩ := hO31.drop1
      rw [← Option.some.inj h]
      exact ⟨rfl, hO43, (e19.trans (e20.trans (e25.trans (e28.trans (e31.trans e43)))))⟩
    replace h := iF (Int.not_lt.2 h48) h
    refine dT (i := 37) (listed' := #[I_,I_,I_,I_,I_,I_,I_,I_,I_,I_,I_,I_,I_,I_,I_,I_,I_,I_,I_,I_,I_,I_,I_,I_,I_,I_,I_,I_,I_,I_,I_,I_,I_,I_,I_,I_,I_,I_,O_,O_,O_,O_,O_]) rfl hP32 hK32 (fun wS hS => (r_pickF (v := .bool false) rfl rfl)) ?_
    refine dT (i := 38) (listed' := #[I_,I_,I_,I_,I_,I_,I_,I_,I_,I_,I_,I_,I_,I_,I_,I_,I_,I_,I_,I_,I_,I_,I_,I_,I_,I_,I_,I_,I_,I_,I_,I_,I_,I_,I_,I_,I_,I_,I_,O_,O_,O_,O_]) rfl hP32 hK32 (fun wS hS => (r_move (v := .bool false) rfl)) ?_
    refine dG (i := 39) (listed' := #[I_,I_,I_,I_,I_,I_,I_,I_,I_,I_,I_,I_,I_,I_,I_,I_,I_,I_,I_,I_,I_,I_,I_,I_,I_,I_,I_,I_,I_,I_,I_,I_,I_,I_,I_,I_,I_,I_,I_,I_,O_,O_,O_]) rfl 50 hP32 rfl hK32 (fun wS hS => (r_fieldAddr Try.underlying56 rfl I3 (by decide) rfl)) ?_
    refine dG (i := 40) (listed' := #[I_,I_,I_,I_,I_,I_,I_,I_,I_,I_,I_,I_,I_,I_,I_,I_,I_,I_,I_,I_,I_,I_,I_,I_,I_,I_,I_,I_,I_,I_,I_,I_,I_,I_,I_,I_,I_,I_,I_,I_,I_,O_,O_]) rfl 50 hP32 rfl hK32 (fun wS hS => (r_load1 (v := .int _ _) Try.underlying3 rfl rfl (cellB (hS.own.get (i := 0) rfl) rfl rfl))) ?_
    refine dt_gtrG (i := 41) (listed' := #[I_,I_,I_,I_,I_,I_,I_,I_,I_,I_,I_,I_,I_,I_,I_,I_,I_,I_,I_,I_,I_,I_,I_,I_,I_,I_,I_,I_,I_,I_,I_,I_,I_,I_,I_,I_,I_,I_,I_,I_,I_,I_,O_]) (by rfl) (by kernel_rfl) (by rfl) hP32.u 50 (by rfl) rfl hK32 rfl rfl (fun h53 => ?_) (fun h53 => ?_)
    · replace h := iT h53 h
      refine dT (i := 42) (listed' := #[I_,I_,I_,I_,I_,I_,I_,I_,I_,I_,I_,I_,I_,I_,I_,I_,I_,I_,I_,I_,I_,I_,I_,I_,I_,I_,I_,I_,I_,I_,I_,I_,I_,I_,I_,I_,I_,I_,I_,I_,I_,I_,I_]) rfl hP32 hK32 (fun wS hS => (r_pickF (v := .bool true) rfl rfl)) ?_
      refine d_done (by kernel_rfl) ?_
      refine c_next ?_
      refine c_condT rfl ?_
      refine c_seq ?_
      refine c_reg ?_
      refine sv (r_assign (v := .bool false) rfl) ?_
      refine s_nil ?_
      refine c_next ?_
      refine c_ret ?_
      refine r_block ?_
      refine r_then ?_
      refine r_then ?_
      refine r_block ?_
      refine r_then ?_
      replace h := crossE h hyl19
      refine e_1 (v := .bool false) Try.results38 rfl ?_
      obtain ⟨hO44, e44⟩ := hO31.drop1
      rw [← Option.some.inj h]
      exact ⟨rfl, hO44, (e19.trans (e20.trans (e25.trans (e28.trans (e31.trans e44)))))⟩
    replace h := iF (Int.not_lt.2 h53) h
    refine dT (i := 42) (listed' := #[I_,I_,I_,I_,I_,I_,I_,I_,I_,I_,I_,I_,I_,I_,I_,I_,I_,I_,I_,I_,I_,I_,I_,I_,I_,I_,I_,I_,I_,I_,I_,I_,I_,I_,I_,I_,I_,I_,I_,I_,I_,I_,I_]) rfl hP32 hK32 (fun wS hS => (r_pickF (v := .bool false) rfl rfl)) ?_
    refine d_done (by kernel_rfl) ?_
    refine c_next ?_
    refine c_condF rfl ?_
    refine c_skip ?_
    refine x_norm ?_
    refine c_next ?_
    refine c_reg ?_
    refine sv (r_addI (a := xl1_t7) (b := 1) rfl rfl) ?_
    refine sv (r_move (v := .int _ _) rfl) ?_
    refine s_nil ?_
    refine l_end (m' := kl19) (Nat.lt_succ_self _) ?_
    rw [← Option.some.inj h] at hyl19
    obtain ⟨hO45, e45⟩ := hO31.drop1
    exact ⟨(w64 (xl1_t7 + 1)), hyl19, rfl, rfl, rfl, rfl, hO45, (e19.trans (e20.trans (e25.trans (e28.trans (e31.trans e45)))))⟩
  replace h := iF (nt hb22) h
  refine c_condF (congrArg Value.bool hb22) ?_
  refine c_exit ?_
  refine x_then ?_
  refine x_then ?_
  refine x_same ?_
  replace h := crossE h hyl19
  refine c_next ?_
  refine c_seq ?_
  refine c_reg ?_
  refine sv (r_assign (v := .bool true) rfl) ?_
  refine s_nil ?_
  refine c_next ?_
  refine c_ret ?_
  refine e_1 (v := .bool true) Try.results38 rfl ?_
  rw [← Option.some.inj h]
  exact ⟨rfl, hO20, (e19.trans e20)⟩
theorem c_ticket_Right (x0 : (List T_ticket_Ticket)) (aP0 : Option Addr) (mP0 cP0 : Nat)  (r : Bool) (h : F_ticket_Right x0 = some r) (w : World) (L : Hp) (hm0p : x0.length = mP0) (hc0p : mP0 ≤ cP0) (hR0p : Rd w L aP0 (fl e_ticket_Ticket x0)) (hO : Own w L) :
    Calls Try.prog 39 #[(.slice aP0 mP0 cP0)] w fun en w' => en = .returned (.bool r) ∧ Own w' L ∧ Ext w L w' L := by
  unfold F_ticket_Right at h
  refine enter (n := 34) [(.slice aP0 mP0 cP0)] Try.func39 rfl rfl (Nat.le_of_ble_eq_true rfl) ?_
  refine c_seq ?_
  refine c_reg ?_
  refine sv (r_assign (v := .bool false) rfl) ?_
  refine s_nil ?_
  refine c_next ?_
  refine c_seq ?_
  refine c_seq ?_
  refine c_reg ?_
  refine sv (r_move (v := .slice _ _ _) rfl) ?_
  refine sv (r_lenL (xs := x0) Try.underlying25 rfl hm0p) ?_
  refine sv (r_move (v := .int _ _) rfl) ?_
  refine s_nil ?_
  refine c_next ?_
  refine c_block ?_
  obtain ⟨kl25, hkl25⟩ := loop_iff.1 h
  clear h
  refine c_loopL hO (fun Lc f0 m g wl => ∃ (xl1_t7 : Int), (iterK (ticket_Right_l1 x0) m xl1_t7 = some r) ∧ g 0 = (.slice aP0 mP0 cP0) ∧ g 5 = (.slice aP0 mP0 cP0) ∧ g 6 = (.int .i64 ((x0.length : Int))) ∧ g 7 = (.int .i64 xl1_t7) ∧ Own wl L ∧ Ext w Lc wl L) kl25 ?_ ?_
  · skip
    exact ⟨0, hkl25, rfl, rfl, rfl, rfl, hO, (Ext.refl _ _)⟩
  clear hkl25
  intro mm25 gg25 w25 hI25
  obtain ⟨xl1_t7, hkl25, hsl1_0, hsl1_5, hsl1_6, hsl1_7, hO25, e25⟩ := hI25
  obtain ⟨kl25, yl25, rfl, h, hyl25⟩ := iterE hkl25
  clear hkl25
  obtain ⟨qq25, rfl⟩ := fr4 hsl1_0 hsl1_5 hsl1_6 hsl1_7
  clear hsl1_0 hsl1_5 hsl1_6 hsl1_7
  have hR0p := (hR0p.ext e25)
  obtain ⟨oc26, G26, hG26, h, hr26⟩ := bindG h
  refine c_cutL hO25 (fun Lc f0 g w' => ∃ (xc2_t8 : Bool), (G26 xc2_t8 = some yl25) ∧ g 0 = (.slice aP0 mP0 cP0) ∧ g 5 = (.slice aP0 mP0 cP0) ∧ g 6 = (.int .i64 ((x0.length : Int))) ∧ g 7 = (.int .i64 xl1_t7) ∧ g 8 = (.bool xc2_t8) ∧ Own w' L ∧ Ext w25 Lc w' L) ?_ ?_
  · skip
    refine c_reg ?_
    refine c_lss rfl rfl (fun h8 => ?_) (fun h8 => ?_)
    · replace h := iT h8 h
      refine s_nil ?_
      refine c_next ?_
      rw [← Option.some.inj h] at hr26
      exact ⟨_, rfl, true, hr26, rfl, rfl, rfl, rfl, rfl, hO25, (Ext.refl _ _)⟩
    replace h := iF (Int.not_lt.2 h8) h
    refine s_nil ?_
    refine c_next ?_
    rw [← Option.some.inj h] at hr26
    exact ⟨_, rfl, false, hr26, rfl, rfl, rfl, rfl, rfl, hO25, (Ext.refl _ _)⟩
  intro gg26 w26 hI26
  clear h hr26
  obtain ⟨xc2_t8, h, hsc2_0, hsc2_5, hsc2_6, hsc2_7, hsc2_8, hO26, e26⟩ := hI26
  replace h := hG_ hG26 h; clear hG26
  obtain ⟨qq26, rfl⟩ := fr5 hsc2_0 hsc2_5 hsc2_6 hsc2_7 hsc2_8
  clear hsc2_0 hsc2_5 hsc2_6 hsc2_7 hsc2_8
  refine c_seq ?_
  rcases Bool.eq_false_or_eq_true (xc2_t8) with hb28 | hb28
  · replace h := iT hb28 h
    refine c_condT (congrArg Value.bool hb28) ?_
    refine c_skip ?_
    refine c_next ?_
    refine c_seq ?_
    refine c_block ?_
    refine c_seq ?_
    refine c_reg ?_
    refine sv (r_move (v := .int _ _) rfl) ?_
    obtain ⟨y10, hy10, h⟩ := bindE h
    refine a_idx (e := e_ticket_Ticket) (xs := x0) (i := xl1_t7) Try.underlying25 I59 rfl rfl (Rd.cs (hR0p.ext e26)) e_ticket_Ticket_len (by decide) hm0p hy10 ?_
    intro p10 hp10
    refine s_loadN (cs := [(.int .i64 y10.No), (.int .i64 y10.For), (.int .i64 y10.Until)]) Try.underlying59 rfl I59 rfl rfl hp10 ?_
    refine s_alloc I59 hO26 ?_
    intro b4 w40 hz4 hl4 hO40 e40
    have hO41 : Own w40 ((b4, .cells #[(.int .i64 0), (.int .i64 0), (.int .i64 0)] 59 (0, 0)) :: L) := hO40
    refine sv (r_assign (v := .int _ _) rfl) ?_
    refine s_storeN (vs := #[(.int .i64 y10.No), (.int .i64 y10.For), (.int .i64 y10.Until)]) I59 rfl rfl rfl hO41 (i := 0) rfl (Nat.le_of_ble_eq_true rfl) (List.all_eq_true.1 rfl) ?_
    intro w43 hO43 e43
    have hO44 : Own w43 ((b4, .cells #[(.int .i64 y10.No), (.int .i64 y10.For), (.int .i64 y10.Until)] 59 (0, 0)) :: L) := hO43
    refine s_nil ?_
    refine c_next ?_
    refine c_seq ?_
    have hR0p := (hR0p.ext (e26.trans (e40.trans e43)))
    refine d_startL hO44 hO44 18 (by kernel_rfl) (pk_then (pk_block (pk_then (pk_then (pk_block (pk_then pk_body)))))) ?_
    intro hP52 wd52 hK52 hO51 e51
    refine dT (i := 0) (listed' := #[I_,O_,O_,O_,O_,O_,O_,O_,O_,O_,O_,O_,O_,O_,O_,O_,O_,O_]) rfl hP52 hK52 (fun wS hS => (rl_all Try.underlying59 rfl I59 rfl (hS.own.get (i := 0) rfl) rfl rfl)) ?_
    refine d1 (i := 1) (listed' := #[I_,I_,O_,O_,O_,O_,O_,O_,O_,O_,O_,O_,O_,O_,O_,O_,O_,O_]) ?_
    obtain ⟨y13, hy13, h⟩ := bindE h
    refine s_call cf54 rfl (c_ticket_one y10 _ hy13 _ _ hO51) ?_
    rintro er13 w53 ⟨rfl, hO53, e53⟩
    refine ⟨_, rfl, ?_⟩
    have hK54 : Kept w43 _ _ w53 := Kept.to (e51.trans e53) hO53
    refine d_back hK54 ?_
    refine dT (i := 2) (listed' := #[I_,I_,I_,O_,O_,O_,O_,O_,O_,O_,O_,O_,O_,O_,O_,O_,O_,O_]) rfl hP52 hK54 (fun wS hS => (r_not (b := y13) rfl)) ?_
    refine dT (i := 3) (listed' := #[I_,I_,I_,I_,O_,O_,O_,O_,O_,O_,O_,O_,O_,O_,O_,O_,O_,O_]) rfl hP52 hK54 (fun wS hS => (r_move (v := .bool _) rfl)) ?_
    rcases Bool.eq_false_or_eq_true (y13) with hb55 | hb55
    · replace h := iT hb55 h
      refine dG (i := 4) (listed' := #[I_,I_,I_,I_,I_,O_,O_,O_,O_,O_,O_,O_,O_,O_,O_,O_,O_,O_]) rfl 15 hP52 (congrArg Value.bool (nnt hb55)) hK54 (fun wS hS => (r_move (v := .int _ _) rfl)) ?_
      refine dt_gtrG (i := 5) (listed' := #[I_,I_,I_,I_,I_,I_,O_,O_,O_,O_,O_,O_,O_,O_,O_,O_,O_,O_]) (by rfl) (by kernel_rfl) (by rfl) hP52.u 15 (by rfl) (congrArg Value.bool (nnt hb55)) hK54 rfl rfl (fun h17 => ?_) (fun h17 => ?_)
      · replace h := iT h17 h
        refine dG (i := 6) (listed' := #[I_,I_,I_,I_,I_,I_,I_,O_,O_,O_,O_,O_,O_,O_,O_,O_,O_,O_]) rfl 15 hP52 (congrArg Value.bool (nnt hb55)) hK54 (fun wS hS => (r_move (v := .bool true) rfl)) ?_
        refine dG (i := 7) (listed' := #[I_,I_,I_,I_,I_,I_,I_,I_,O_,O_,O_,O_,O_,O_,O_,O_,O_,O_]) rfl 18 hP52 rfl hK54 (fun wS hS => (r_fieldAddr Try.underlying59 rfl I3 (by decide) rfl)) ?_
        refine dG (i := 8) (listed' := #[I_,I_,I_,I_,I_,I_,I_,I_,I_,O_,O_,O_,O_,O_,O_,O_,O_,O_]) rfl 18 hP52 rfl hK54 (fun wS hS => (r_load1 (v := .int _ _) Try.underlying3 rfl rfl (cellB (hS.own.get (i := 0) rfl) rfl rfl))) ?_
        refine dG (i := 9) (listed' := #[I_,I_,I_,I_,I_,I_,I_,I_,I_,I_,O_,O_,O_,O_,O_,O_,O_,O_]) rfl 18 hP52 rfl hK54 (fun wS hS => (r_move (v := .slice _ _ _) rfl)) ?_
        refine dG (i := 10) (listed' := #[I_,I_,I_,I_,I_,I_,I_,I_,I_,I_,I_,O_,O_,O_,O_,O_,O_,O_]) rfl 18 hP52 rfl hK54 (fun wS hS => (r_move (v := .int _ _) rfl)) ?_
        refine dG (i := 11) (listed' := #[I_,I_,I_,I_,I_,I_,I_,I_,I_,I_,I_,I_,O_,O_,O_,O_,O_,O_]) rfl 18 hP52 rfl hK54 (fun wS hS => (r_subI (a := xl1_t7) (b := 1) rfl rfl)) ?_
        obtain ⟨y24, hy24, h⟩ := bindE h
        obtain ⟨ad24, had24, hk24⟩ := ix_known (e := e_ticket_Ticket) (Rd.cs hR0p) e_ticket_Ticket_len (by decide) hy24
        have hx24 : Value.slice aP0 mP0 cP0 = .slice (some ad24) mP0 cP0 := by rw [had24]
        refine dG (i := 12) (listed' := #[I_,I_,I_,I_,I_,I_,I_,I_,I_,I_,I_,I_,I_,O_,O_,O_,O_,O_]) rfl 18 hP52 rfl hK54 (fun wS hS => (ra_idx (xs := x0) (i := (w64 (xl1_t7 - 1))) Try.underlying25 I59 (by exact hx24) (by rfl) hm0p hy24)) ?_
        refine dG (i := 13) (listed' := #[I_,I_,I_,I_,I_,I_,I_,I_,I_,I_,I_,I_,I_,I_,O_,O_,O_,O_]) rfl 18 hP52 rfl hK54 (fun wS hS => (r_fieldAddr Try.underlying59 rfl I3 (by decide) rfl)) ?_
        refine dG (i := 14) (listed' := #[I_,I_,I_,I_,I_,I_,I_,I_,I_,I_,I_,I_,I_,I_,I_,O_,O_,O_]) rfl 18 hP52 rfl hK54 (fun wS hS => (r_load1 (v := .int _ _) Try.underlying3 rfl rfl (cellP (hk24 _ (hR0p.kept hS)) 0 rfl))) ?_
        refine dt_leqG (i := 15) (listed' := #[I_,I_,I_,I_,I_,I_,I_,I_,I_,I_,I_,I_,I_,I_,I_,I_,O_,O_]) (by rfl) (by kernel_rfl) (by rfl) hP52.u 18 (by rfl) rfl hK54 rfl rfl (fun h27 => ?_) (fun h27 => ?_)
        · replace h := iT h27 h
          refine dG (i := 16) (listed' := #[I_,I_,I_,I_,I_,I_,I_,I_,I_,I_,I_,I_,I_,I_,I_,I_,I_,O_]) rfl 15 hP52 (congrArg Value.bool (nnt hb55)) hK54 (fun wS hS => (r_pickT (v := .bool true) rfl rfl)) ?_
          refine dT (i := 17) (listed' := #[I_,I_,I_,I_,I_,I_,I_,I_,I_,I_,I_,I_,I_,I_,I_,I_,I_,I_]) rfl hP52 hK54 (fun wS hS => (r_pickF (v := .bool true) (by exact (congrArg Value.bool (nnt hb55))) rfl)) ?_
          refine d_done (by kernel_rfl) ?_
          refine c_next ?_
          refine c_condT rfl ?_
          refine c_seq ?_
          refine c_reg ?_
          refine sv (r_assign (v := .bool false) rfl) ?_
          refine s_nil ?_
          refine c_next ?_
          refine c_ret ?_
          refine r_block ?_
          refine r_then ?_
          refine r_then ?_
          refine r_block ?_
          refine r_then ?_
          replace h := crossE h hyl25
          refine e_1 (v := .bool false) Try.results39 rfl ?_
          obtain ⟨hO56, e56⟩ := hO53.drop1
          rw [← Option.some.inj h]
          exact ⟨rfl, hO56, (e25.trans (e26.trans (e40.trans (e43.trans (e51.trans (e53.trans e56))))))⟩
        replace h := iF (Int.not_le.2 h27) h
        refine dG (i := 16) (listed' := #[I_,I_,I_,I_,I_,I_,I_,I_,I_,I_,I_,I_,I_,I_,I_,I_,I_,O_]) rfl 15 hP52 (congrArg Value.bool (nnt hb55)) hK54 (fun wS hS => (r_pickT (v := .bool false) rfl rfl)) ?_
        refine dT (i := 17) (listed' := #[I_,I_,I_,I_,I_,I_,I_,I_,I_,I_,I_,I_,I_,I_,I_,I_,I_,I_]) rfl hP52 hK54 (fun wS hS => (r_pickF (v := .bool false) (by exact (congrArg Value.bool (nnt hb55))) rfl)) ?_
        refine d_done (by kernel_rfl) ?_
        refine c_next ?_
        refine c_condF rfl ?_
        refine c_skip ?_
        refine x_norm ?_
        refine c_next ?_
        refine c_reg ?_
        refine sv (r_addI (a := xl1_t7) (b := 1) rfl rfl) ?_
        refine sv (r_move (v := .int _ _) rfl) ?_
        refine s_nil ?_
        refine l_end (m' := kl25) (Nat.lt_succ_self _) ?_
        rw [← Option.some.inj h] at hyl25
        obtain ⟨hO57, e57⟩ := hO53.drop1
        exact ⟨(w64 (xl1_t7 + 1)), hyl25, rfl, rfl, rfl, rfl, hO57, (e25.trans (e26.trans (e40.trans (e43.trans (e51.trans (e53.trans e57))))))⟩
      replace h := iF (Int.not_lt.2 h17) h
      refine dG (i := 6) (listed' := #[I_,I_,I_,I_,I_,I_,I_,O_,O_,O_,O_,O_,O_,O_,O_,O_,O_,O_]) rfl 15 hP52 (congrArg Value.bool (nnt hb55)) hK54 (fun wS hS => (r_move (v := .bool false) rfl)) ?_
      refine dS (i := 7) (listed' := #[I_,I_,I_,I_,I_,I_,I_,I_,O_,O_,O_,O_,O_,O_,O_,O_,O_,O_]) rfl 18 hP52 rfl hK54 ?_
      refine dS (i := 8) (listed' := #[I_,I_,I_,I_,I_,I_,I_,I_,I_,O_,O_,O_,O_,O_,O_,O_,O_,O_]) rfl 18 hP52 rfl hK54 ?_
      refine dS (i := 9) (listed' := #[I_,I_,I_,I_,I_,I_,I_,I_,I_,I_,O_,O_,O_,O_,O_,O_,O_,O_]) rfl 18 hP52 rfl hK54 ?_
      refine dS (i := 10) (listed' := #[I_,I_,I_,I_,I_,I_,I_,I_,I_,I_,I_,O_,O_,O_,O_,O_,O_,O_]) rfl 18 hP52 rfl hK54 ?_
      refine dS (i := 11) (listed' := #[I_,I_,I_,I_,I_,I_,I_,I_,I_,I_,I_,I_,O_,O_,O_,O_,O_,O_]) rfl 18 hP52 rfl hK54 ?_
      refine dS (i := 12) (listed' := #[I_,I_,I_,I_,I_,I_,I_,I_,I_,I_,I_,I_,I_,O_,O_,O_,O_,O_]) rfl 18 hP52 rfl hK54 ?_
      refine dS (i := 13) (listed' := #[I_,I_,I_,I_,I_,I_,I_,I_,I_,I_,I_,I_,I_,I_,O_,O_,O_,O_]) rfl 18 hP52 rfl hK54 ?_
      refine dS (i := 14) (listed' := #[I_,I_,I_,I_,I_,I_,I_,I_,I_,I_,I_,I_,I_,I_,I_,O_,O_,O_]) rfl 18 hP52 rfl hK54 ?_
      refine dS (i := 15) (listed' := #[I_,I_,I_,I_,I_,I_,I_,I_,I_,I_,I_,I_,I_,I_,I_,I_,O_,O_]) rfl 18 hP52 rfl hK54 ?_
      refine dG (i := 16) (listed' := #[I_,I_,I_,I_,I_,I_,I_,I_,I_,I_,I_,I_,I_,I_,I_,I_,I_,O_]) rfl 15 hP52 (congrArg Value.bool (nnt hb55)) hK54 (fun wS hS => (r_pickF (v := .bool false) rfl rfl)) ?_
      refine dT (i := 17) (listed' := #[I_,I_,I_,I_,I_,I_,I_,I_,I_,I_,I_,I_,I_,I_,I_,I_,I_,I_]) rfl hP52 hK54 (fun wS hS => (r_pickF (v := .bool false) (by exact (congrArg Value.bool (nnt hb55))) rfl)) ?_
      refine d_done (by kernel_rfl) ?_
      refine c_next ?_
      refine c_condF rfl ?_
      refine c_skip ?_
      refine x_norm ?_
      refine c_next ?_
      refine c_reg ?_
      refine sv (r_addI (a := xl1_t7) (b := 1) rfl rfl) ?_
      refine sv (r_move (v := .int _ _) rfl) ?_
      refine s_nil ?_
      refine l_end (m' := kl25) (Nat.lt_succ_self _) ?_
      rw [← Option.some.inj h] at hyl25
      obtain ⟨hO58, e58⟩ := hO53.drop1
      exact ⟨(w64 (xl1_t7 + 1)), hyl25, rfl, rfl, rfl, rfl, hO58, (e25.trans (e26.trans (e40.trans (e43.trans (e51.trans (e53.trans e58))))))⟩
    replace h := iF (nt hb55) h
    refine dS (i := 4) (listed' := #[I_,I_,I_,I_,I_,O_,O_,O_,O_,O_,O_,O_,O_,O_,O_,O_,O_,O_]) rfl 15 hP52 (congrArg Value.bool (nnf hb55)) hK54 ?_
    refine dS (i := 5) (listed' := #[I_,I_,I_,I_,I_,I_,O_,O_,O_,O_,O_,O_,O_,O_,O_,O_,O_,O_]) rfl 15 hP52 (congrArg Value.bool (nnf hb55)) hK54 ?_
    refine dS (i := 6) (listed' := #[I_,I_,I_,I_,I_,I_,I_,O_,O_,O_,O_,O_,O_,O_,O_,O_,O_,O_]) rfl 15 hP52 (congrArg Value.bool (nnf hb55)) hK54 ?_
    refine dU (i := 7) (listed' := #[I_,I_,I_,I_,I_,I_,I_,I_,O_,O_,O_,O_,O_,O_,O_,O_,O_,O_]) rfl 18 hP52 hK54 ?_
    refine dU (i := 8) (listed' := #[I_,I_,I_,I_,I_,I_,I_,I_,I_,O_,O_,O_,O_,O_,O_,O_,O_,O_]) rfl 18 hP52 hK54 ?_
    refine dU (i := 9) (listed' := #[I_,I_,I_,I_,I_,I_,I_,I_,I_,I_,O_,O_,O_,O_,O_,O_,O_,O_]) rfl 18 hP52 hK54 ?_
    refine dU (i := 10) (listed' := #[I_,I_,I_,I_,I_,I_,I_,I_,I_,I_,I_,O_,O_,O_,O_,O_,O_,O_]) rfl 18 hP52 hK54 ?_
    refine dU (i := 11) (listed' := #[I_,I_,I_,I_,I_,I_,I_,I_,I_,I_,I_,I_,O_,O_,O_,O_,O_,O_]) rfl 18 hP52 hK54 ?_
    refine dU (i := 12) (listed' := #[I_,I_,I_,I_,I_,I_,I_,I_,I_,I_,I_,I_,I_,O_,O_,O_,O_,O_]) rfl 18 hP52 hK54 ?_
    refine dU (i := 13) (listed' := #[I_,I_,I_,I_,I_,I_,I_,I_,I_,I_,I_,I_,I_,I_,O_,O_,O_,O_]) rfl 18 hP52 hK54 ?_
    refine dU (i := 14) (listed' := #[I_,I_,I_,I_,I_,I_,I_,I_,I_,I_,I_,I_,I_,I_,I_,O_,O_,O_]) rfl 18 hP52 hK54 ?_
    refine dU (i := 15) (listed' := #[I_,I_,I_,I_,I_,I_,I_,I_,I_,I_,I_,I_,I_,I_,I_,I_,O_,O_]) rfl 18 hP52 hK54 ?_
    refine dS (i := 16) (listed' := #[I_,I_,I_,I_,I_,I_,I_,I_,I_,I_,I_,I_,I_,I_,I_,I_,I_,O_]) rfl 15 hP52 (congrArg Value.bool (nnf hb55)) hK54 ?_
    refine dT (i := 17) (listed' := #[I_,I_,I_,I_,I_,I_,I_,I_,I_,I_,I_,I_,I_,I_,I_,I_,I_,I_]) rfl hP52 hK54 (fun wS hS => (r_pickT (v := .bool true) (by exact (congrArg Value.bool (nnf hb55))) rfl)) ?_
    refine d_done (by kernel_rfl) ?_
    refine c_next ?_
    refine c_condT rfl ?_
    refine c_seq ?_
    refine c_reg ?_
    refine sv (r_assign (v := .bool false) rfl) ?_
    refine s_nil ?_
    refine c_next ?_
    refine c_ret ?_
    refine r_block ?_
    refine r_then ?_
    refine r_then ?_
    refine r_block ?_
    refine r_then ?_
    replace h := crossE h hyl25
    refine e_1 (v := .bool false) Try.results39 rfl ?_
    obtain ⟨hO59, e59⟩ := hO53.drop1
    rw [← Option.some.inj h]
    exact ⟨rfl, hO59, (e25.trans (e26.trans (e40.trans (e43.trans (e51.trans (e53.trans e59))))))⟩
  replace h := iF (nt hb28) h
  refine c_condF (congrArg Value.bool hb28) ?_
  refine c_exit ?_
  refine x_then ?_
  refine x_then ?_
  refine x_same ?_
  replace h := crossE h hyl25
  refine c_next ?_
  refine c_seq ?_
  refine c_reg ?_
  refine sv (r_move (v := .slice _ _ _) rfl) ?_
  refine sv (r_lenL (xs := x0) Try.underlying25 rfl hm0p) ?_
  refine c_leq rfl rfl (fun h33 => ?_) (fun h33 => ?_)
  · replace h := iT h33 h
    refine sv (r_assign (v := .bool true) rfl) ?_
    refine s_nil ?_
    refine c_next ?_
    refine c_ret ?_
    refine e_1 (v := .bool true) Try.results39 rfl ?_
    rw [← Option.some.inj h]
    exact ⟨rfl, hO26, (e25.trans e26)⟩
  replace h := iF (Int.not_le.2 h33) h
  refine sv (r_assign (v := .bool false) rfl) ?_
  refine s_nil ?_
  refine c_next ?_
  refine c_ret ?_
  refine e_1 (v := .bool false) Try.results39 rfl ?_
  rw [← Option.some.inj h]
  exact ⟨rfl, hO26, (e25.trans e26)⟩
theorem c_claim_Right (x0 : T_claim_State) (aP0 : Option Addr) (mP0 cP0 : Nat) (aP1 : Option Addr) (mP1 cP1 : Nat)  (r : Bool) (h : F_claim_Right x0 = some r) (w : World) (L : Hp) (hm0p : x0.Roster.length = mP0) (hc0p : mP0 ≤ cP0) (hR0p : Rd w L aP0 (fl e_roster_Device x0.Roster)) (hm1p : x0.Tickets.length = mP1) (hc1p : mP1 ≤ cP1) (hR1p : Rd w L aP1 (fl e_ticket_Ticket x0.Tickets)) (hO : Own w L) :
    Calls Try.prog 16 #[(.agg #[(.int .i64 x0.Epoch), (.int .i64 x0.Owner), (.int .i64 x0.Next), (.slice aP0 mP0 cP0), (.slice aP1 mP1 cP1)])] w fun en w' => en = .returned (.bool r) ∧ Own w' L ∧ Ext w L w' L := by
  unfold F_claim_Right at h
  refine enter (n := 77) [(.agg #[(.int .i64 x0.Epoch), (.int .i64 x0.Owner), (.int .i64 x0.Next), (.slice aP0 mP0 cP0), (.slice aP1 mP1 cP1)])] Try.func16 rfl rfl (Nat.le_of_ble_eq_true rfl) ?_
  refine c_seq ?_
  refine c_reg ?_
  refine s_box (v := (.agg #[(.int .i64 x0.Epoch), (.int .i64 x0.Owner), (.int .i64 x0.Next), (.slice aP0 mP0 cP0), (.slice aP1 mP1 cP1)])) rfl hO ?_
  intro b1 w2 hz1 hl1 hO2 e2
  have hO3 : Own w2 ((b1, .cells #[(.int .i64 x0.Epoch), (.int .i64 x0.Owner), (.int .i64 x0.Next), (.slice aP0 mP0 cP0), (.slice aP1 mP1 cP1)] 27 (0, 0)) :: L) := hO2
  refine sv (r_assign (v := .bool false) rfl) ?_
  refine s_nil ?_
  refine c_next ?_
  refine c_seq ?_
  have hR0p := (hR0p.ext e2)
  have hR1p := (hR1p.ext e2)
  obtain ⟨oc15, G15, hG15, h, hr15⟩ := bindG h
  refine c_cutL hO3 (fun Lc f0 g w' => ∃ (xc1_t35 : Bool), (G15 xc1_t35 = some r) ∧ g 1 = (.pointer (some ⟨b1, 0, none⟩)) ∧ g 35 = (.bool xc1_t35) ∧ Own w' ((b1, .cells #[(.int .i64 x0.Epoch), (.int .i64 x0.Owner), (.int .i64 x0.Next), (.slice aP0 mP0 cP0), (.slice aP1 mP1 cP1)] 27 (0, 0)) :: L) ∧ Ext w2 Lc w' ((b1, .cells #[(.int .i64 x0.Epoch), (.int .i64 x0.Owner), (.int .i64 x0.Next), (.slice aP0 mP0 cP0), (.slice aP1 mP1 cP1)] 27 (0, 0)) :: L)) ?_ ?_
  · skip
    refine c_reg ?_
    refine sv (r_fieldAddr Try.underlying27 rfl I3 (by decide) rfl) ?_
    refine s_load1 (v := .int _ _) Try.underlying3 rfl rfl (cellB (hO3.get (i := 0) rfl) rfl rfl) ?_
    refine c_lss rfl rfl (fun h8 => ?_) (fun h8 => ?_)
    · replace h := iT h8 h
      refine sv (r_move (v := .bool true) rfl) ?_
      refine g_skip 9 (by rfl) rfl (by rfl) ?_
      refine g_skip 9 (by rfl) rfl (by rfl) ?_
      refine g_skip 9 (by rfl) rfl (by rfl) ?_
      refine sv (r_pickT (v := .bool true) rfl rfl) ?_
      refine sv (r_move (v := .bool true) rfl) ?_
      refine g_skip 14 (by rfl) rfl (by rfl) ?_
      refine g_skip 14 (by rfl) rfl (by rfl) ?_
      refine g_skip 14 (by rfl) rfl (by rfl) ?_
      refine sv (r_pickT (v := .bool true) rfl rfl) ?_
      refine sv (r_move (v := .bool true) rfl) ?_
      refine g_skip 19 (by rfl) rfl (by rfl) ?_
      refine g_skip 19 (by rfl) rfl (by rfl) ?_
      refine g_skip 19 (by rfl) rfl (by rfl) ?_
      refine sv (r_pickT (v := .bool true) rfl rfl) ?_
      refine sv (r_move (v := .bool true) rfl) ?_
      refine g_skip 24 (by rfl) rfl (by rfl) ?_
      refine g_skip 24 (by rfl) rfl (by rfl) ?_
      refine g_skip 24 (by rfl) rfl (by rfl) ?_
      refine g_skip 24 (by rfl) rfl (by rfl) ?_
      refine sv (r_pickT (v := .bool true) rfl rfl) ?_
      refine sv (r_move (v := .bool true) rfl) ?_
      refine g_skip 30 (by rfl) rfl (by rfl) ?_
      refine g_skip 30 (by rfl) rfl (by rfl) ?_
      refine g_skip 30 (by rfl) rfl (by rfl) ?_
      refine g_skip 30 (by rfl) rfl (by rfl) ?_
      refine sv (r_pickT (v := .bool true) rfl rfl) ?_
      refine s_nil ?_
      refine c_next ?_
      rw [← Option.some.inj h] at hr15
      exact ⟨_, rfl, true, hr15, rfl, rfl, hO3, (Ext.refl _ _)⟩
    replace h := iF (Int.not_lt.2 h8) h
    refine sv (r_move (v := .bool false) rfl) ?_
    refine g_do 9 (by rfl) rfl ?_
    refine sv (r_fieldAddr Try.underlying27 rfl I3 (by decide) rfl) ?_
    refine g_do 9 (by rfl) rfl ?_
    refine s_load1 (v := .int _ _) Try.underlying3 rfl rfl (cellB (hO3.get (i := 0) rfl) rfl rfl) ?_
    refine g_do 9 (by rfl) rfl ?_
    refine c_gtr rfl rfl (fun h12 => ?_) (fun h12 => ?_)
    · replace h := iT h12 h
      refine sv (r_pickF (v := .bool true) rfl rfl) ?_
      refine sv (r_move (v := .bool true) rfl) ?_
      refine g_skip 14 (by rfl) rfl (by rfl) ?_
      refine g_skip 14 (by rfl) rfl (by rfl) ?_
      refine g_skip 14 (by rfl) rfl (by rfl) ?_
      refine sv (r_pickT (v := .bool true) rfl rfl) ?_
      refine sv (r_move (v := .bool true) rfl) ?_
      refine g_skip 19 (by rfl) rfl (by rfl) ?_
      refine g_skip 19 (by rfl) rfl (by rfl) ?_
      refine g_skip 19 (by rfl) rfl (by rfl) ?_
      refine sv (r_pickT (v := .bool true) rfl rfl) ?_
      refine sv (r_move (v := .bool true) rfl) ?_
      refine g_skip 24 (by rfl) rfl (by rfl) ?_
      refine g_skip 24 (by rfl) rfl (by rfl) ?_
      refine g_skip 24 (by rfl) rfl (by rfl) ?_
      refine g_skip 24 (by rfl) rfl (by rfl) ?_
      refine sv (r_pickT (v := .bool true) rfl rfl) ?_
      refine sv (r_move (v := .bool true) rfl) ?_
      refine g_skip 30 (by rfl) rfl (by rfl) ?_
      refine g_skip 30 (by rfl) rfl (by rfl) ?_
      refine g_skip 30 (by rfl) rfl (by rfl) ?_
      refine g_skip 30 (by rfl) rfl (by rfl) ?_
      refine sv (r_pickT (v := .bool true) rfl rfl) ?_
      refine s_nil ?_
      refine c_next ?_
      rw [← Option.some.inj h] at hr15
      exact ⟨_, rfl, true, hr15, rfl, rfl, hO3, (Ext.refl _ _)⟩
    replace h := iF (Int.not_lt.2 h12) h
    refine sv (r_pickF (v := .bool false) rfl rfl) ?_
    refine sv (r_move (v := .bool false) rfl) ?_
    refine g_do 14 (by rfl) rfl ?_
    refine sv (r_fieldAddr Try.underlying27 rfl I3 (by decide) rfl) ?_
    refine g_do 14 (by rfl) rfl ?_
    refine s_load1 (v := .int _ _) Try.underlying3 rfl rfl (cellB (hO3.get (i := 0) rfl) rfl rfl) ?_
    refine g_do 14 (by rfl) rfl ?_
    refine c_lss rfl rfl (fun h17 => ?_) (fun h17 => ?_)
    · replace h := iT h17 h
      refine sv (r_pickF (v := .bool true) rfl rfl) ?_
      refine sv (r_move (v := .bool true) rfl) ?_
      refine g_skip 19 (by rfl) rfl (by rfl) ?_
      refine g_skip 19 (by rfl) rfl (by rfl) ?_
      refine g_skip 19 (by rfl) rfl (by rfl) ?_
      refine sv (r_pickT (v := .bool true) rfl rfl) ?_
      refine sv (r_move (v := .bool true) rfl) ?_
      refine g_skip 24 (by rfl) rfl (by rfl) ?_
      refine g_skip 24 (by rfl) rfl (by rfl) ?_
      refine g_skip 24 (by rfl) rfl (by rfl) ?_
      refine g_skip 24 (by rfl) rfl (by rfl) ?_
      refine sv (r_pickT (v := .bool true) rfl rfl) ?_
      refine sv (r_move (v := .bool true) rfl) ?_
      refine g_skip 30 (by rfl) rfl (by rfl) ?_
      refine g_skip 30 (by rfl) rfl (by rfl) ?_
      refine g_skip 30 (by rfl) rfl (by rfl) ?_
      refine g_skip 30 (by rfl) rfl (by rfl) ?_
      refine sv (r_pickT (v := .bool true) rfl rfl) ?_
      refine s_nil ?_
      refine c_next ?_
      rw [← Option.some.inj h] at hr15
      exact ⟨_, rfl, true, hr15, rfl, rfl, hO3, (Ext.refl _ _)⟩
    replace h := iF (Int.not_lt.2 h17) h
    refine sv (r_pickF (v := .bool false) rfl rfl) ?_
    refine sv (r_move (v := .bool false) rfl) ?_
    refine g_do 19 (by rfl) rfl ?_
    refine sv (r_fieldAddr Try.underlying27 rfl I3 (by decide) rfl) ?_
    refine g_do 19 (by rfl) rfl ?_
    refine s_load1 (v := .int _ _) Try.underlying3 rfl rfl (cellB (hO3.get (i := 0) rfl) rfl rfl) ?_
    refine g_do 19 (by rfl) rfl ?_
    refine c_gtr rfl rfl (fun h22 => ?_) (fun h22 => ?_)
    · replace h := iT h22 h
      refine sv (r_pickF (v := .bool true) rfl rfl) ?_
      refine sv (r_move (v := .bool true) rfl) ?_
      refine g_skip 24 (by rfl) rfl (by rfl) ?_
      refine g_skip 24 (by rfl) rfl (by rfl) ?_
      refine g_skip 24 (by rfl) rfl (by rfl) ?_
      refine g_skip 24 (by rfl) rfl (by rfl) ?_
      refine sv (r_pickT (v := .bool true) rfl rfl) ?_
      refine sv (r_move (v := .bool true) rfl) ?_
      refine g_skip 30 (by rfl) rfl (by rfl) ?_
      refine g_skip 30 (by rfl) rfl (by rfl) ?_
      refine g_skip 30 (by rfl) rfl (by rfl) ?_
      refine g_skip 30 (by rfl) rfl (by rfl) ?_
      refine sv (r_pickT (v := .bool true) rfl rfl) ?_
      refine s_nil ?_
      refine c_next ?_
      rw [← Option.some.inj h] at hr15
      exact ⟨_, rfl, true, hr15, rfl, rfl, hO3, (Ext.refl _ _)⟩
    replace h := iF (Int.not_lt.2 h22) h
    refine sv (r_pickF (v := .bool false) rfl rfl) ?_
    refine sv (r_move (v := .bool false) rfl) ?_
    refine g_do 24 (by rfl) rfl ?_
    refine sv (r_fieldAddr Try.underlying27 rfl I24 (by decide) rfl) ?_
    refine g_do 24 (by rfl) rfl ?_
    refine s_load1 (v := .slice _ _ _) Try.underlying24 rfl rfl (cellB (hO3.get (i := 0) rfl) rfl rfl) ?_
    refine g_do 24 (by rfl) rfl ?_
    obtain ⟨y27, hy27, h⟩ := bindE h
    refine s_call cf38 rfl (c_roster_Right x0.Roster aP0 mP0 cP0 _ hy27 _ _ hm0p hc0p hR0p hO3) ?_
    rintro er27 w16 ⟨rfl, hO16, e16⟩
    refine ⟨_, rfl, ?_⟩
    refine g_do 24 (by rfl) rfl ?_
    refine sv (r_not (b := y27) rfl) ?_
    refine sv (r_pickF (v := .bool _) rfl rfl) ?_
    refine sv (r_move (v := .bool _) rfl) ?_
    rcases Bool.eq_false_or_eq_true (y27) with hb17 | hb17
    · replace h := iT hb17 h
      refine g_do 30 (by rfl) (congrArg Value.bool (nnt hb17)) ?_
      refine sv (r_fieldAddr Try.underlying27 rfl I25 (by decide) rfl) ?_
      refine g_do 30 (by rfl) (congrArg Value.bool (nnt hb17)) ?_
      refine s_load1 (v := .slice _ _ _) Try.underlying25 rfl rfl (cellB (hO16.get (i := 0) rfl) rfl rfl) ?_
      refine g_do 30 (by rfl) (congrArg Value.bool (nnt hb17)) ?_
      obtain ⟨y33, hy33, h⟩ := bindE h
      refine s_call cf39 rfl (c_ticket_Right x0.Tickets aP1 mP1 cP1 _ hy33 _ _ hm1p hc1p (hR1p.ext e16) hO16) ?_
      rintro er33 w18 ⟨rfl, hO18, e18⟩
      refine ⟨_, rfl, ?_⟩
      refine g_do 30 (by rfl) (congrArg Value.bool (nnt hb17)) ?_
      refine sv (r_not (b := y33) rfl) ?_
      refine sv (r_pickF (v := .bool _) (by exact (congrArg Value.bool (nnt hb17))) rfl) ?_
      refine s_nil ?_
      refine c_next ?_
      rw [← Option.some.inj h] at hr15
      exact ⟨_, rfl, (!y33), hr15, rfl, rfl, hO18, (e16.trans e18)⟩
    replace h := iF (nt hb17) h
    refine g_skip 30 (by rfl) (congrArg Value.bool (nnf hb17)) (by rfl) ?_
    refine g_skip 30 (by rfl) (congrArg Value.bool (nnf hb17)) (by rfl) ?_
    refine g_skip 30 (by rfl) (congrArg Value.bool (nnf hb17)) (by rfl) ?_
    refine g_skip 30 (by rfl) (congrArg Value.bool (nnf hb17)) (by rfl) ?_
    refine sv (r_pickT (v := .bool true) (by exact (congrArg Value.bool (nnf hb17))) rfl) ?_
    refine s_nil ?_
    refine c_next ?_
    rw [← Option.some.inj h] at hr15
    exact ⟨_, rfl, true, hr15, rfl, rfl, hO16, e16⟩
  intro gg15 w15 hI15
  clear h hr15
  obtain ⟨xc1_t35, h, hsc1_1, hsc1_35, hO15, e15⟩ := hI15
  replace h := hG_ hG15 h; clear hG15
  obtain ⟨qq15, rfl⟩ := fr2 hsc1_1 hsc1_35
  clear hsc1_1 hsc1_35
  rcases Bool.eq_false_or_eq_true (xc1_t35) with hb19 | hb19
  · replace h := iT hb19 h
    refine c_condT (congrArg Value.bool hb19) ?_
    refine c_seq ?_
    refine c_reg ?_
    refine sv (r_assign (v := .bool false) rfl) ?_
    refine s_nil ?_
    refine c_next ?_
    refine c_ret ?_
    refine r_then ?_
    refine e_1 (v := .bool false) Try.results16 rfl ?_
    obtain ⟨hO20, e20⟩ := hO15.drop1
    rw [← Option.some.inj h]
    exact ⟨rfl, hO20, (e2.trans (e15.trans e20))⟩
  replace h := iF (nt hb19) h
  refine c_condF (congrArg Value.bool hb19) ?_
  refine c_skip ?_
  refine c_next ?_
  have hR0p := (hR0p.ext e15)
  have hR1p := (hR1p.ext e15)
  obtain ⟨oc25, G25, hG25, h, hr25⟩ := bindS h
  refine c_cutL hO15 (fun Lc f0 g w' => (G25 () = some r) ∧ g 1 = (.pointer (some ⟨b1, 0, none⟩)) ∧ Own w' ((b1, .cells #[(.int .i64 x0.Epoch), (.int .i64 x0.Owner), (.int .i64 x0.Next), (.slice aP0 mP0 cP0), (.slice aP1 mP1 cP1)] 27 (0, 0)) :: L) ∧ Ext w15 Lc w' ((b1, .cells #[(.int .i64 x0.Epoch), (.int .i64 x0.Owner), (.int .i64 x0.Next), (.slice aP0 mP0 cP0), (.slice aP1 mP1 cP1)] 27 (0, 0)) :: L)) ?_ ?_
  · skip
    refine c_seq ?_
    refine c_reg ?_
    refine sv (r_fieldAddr Try.underlying27 rfl I25 (by decide) rfl) ?_
    refine s_load1 (v := .slice _ _ _) Try.underlying25 rfl rfl (cellB (hO15.get (i := 0) rfl) rfl rfl) ?_
    refine sv (r_lenL (xs := x0.Tickets) Try.underlying25 rfl hm1p) ?_
    refine sv (r_assign (v := .int _ _) rfl) ?_
    refine s_nil ?_
    refine c_next ?_
    refine c_seq ?_
    refine d_startL hO15 hO15 19 (by kernel_rfl) (pk_then (pk_then pk_body)) ?_
    intro hP27 wd27 hK27 hO26 e26
    refine dT (i := 0) (listed' := #[I_,O_,O_,O_,O_,O_,O_,O_,O_,O_,O_,O_,O_,O_,O_,O_,O_,O_,O_]) rfl hP27 hK27 (fun wS hS => (r_move (v := .int _ _) rfl)) ?_
    refine dt_gtr (i := 1) (listed' := #[I_,I_,O_,O_,O_,O_,O_,O_,O_,O_,O_,O_,O_,O_,O_,O_,O_,O_,O_]) (by rfl) (by kernel_rfl) (by rfl) hP27.u rfl hK27 rfl rfl (fun h40 => ?_) (fun h40 => ?_)
    · replace h := iT h40 h
      refine dT (i := 2) (listed' := #[I_,I_,I_,O_,O_,O_,O_,O_,O_,O_,O_,O_,O_,O_,O_,O_,O_,O_,O_]) rfl hP27 hK27 (fun wS hS => (r_move (v := .bool true) rfl)) ?_
      refine dG (i := 3) (listed' := #[I_,I_,I_,I_,O_,O_,O_,O_,O_,O_,O_,O_,O_,O_,O_,O_,O_,O_,O_]) rfl 41 hP27 rfl hK27 (fun wS hS => (r_fieldAddr Try.underlying27 rfl I25 (by decide) rfl)) ?_
      refine dG (i := 4) (listed' := #[I_,I_,I_,I_,I_,O_,O_,O_,O_,O_,O_,O_,O_,O_,O_,O_,O_,O_,O_]) rfl 41 hP27 rfl hK27 (fun wS hS => (r_load1 (v := .slice _ _ _) Try.underlying25 rfl rfl (cellB (hS.own.get (i := 0) rfl) rfl rfl))) ?_
      refine dG (i := 5) (listed' := #[I_,I_,I_,I_,I_,I_,O_,O_,O_,O_,O_,O_,O_,O_,O_,O_,O_,O_,O_]) rfl 41 hP27 rfl hK27 (fun wS hS => (r_move (v := .int _ _) rfl)) ?_
      refine dG (i := 6) (listed' := #[I_,I_,I_,I_,I_,I_,I_,O_,O_,O_,O_,O_,O_,O_,O_,O_,O_,O_,O_]) rfl 41 hP27 rfl hK27 (fun wS hS => (r_subI (a := ((x0.Tickets.length : Int))) (b := 1) rfl rfl)) ?_
      obtain ⟨y46, hy46, h⟩ := bindE h
      obtain ⟨ad46, had46, hk46⟩ := ix_known (e := e_ticket_Ticket) (Rd.cs hR1p) e_ticket_Ticket_len (by decide) hy46
      have hx46 : Value.slice aP1 mP1 cP1 = .slice (some ad46) mP1 cP1 := by rw [had46]
      refine dG (i := 7) (listed' := #[I_,I_,I_,I_,I_,I_,I_,I_,O_,O_,O_,O_,O_,O_,O_,O_,O_,O_,O_]) rfl 41 hP27 rfl hK27 (fun wS hS => (ra_idx (xs := x0.Tickets) (i := (w64 (((x0.Tickets.length : Int)) - 1))) Try.underlying25 I59 (by exact hx46) (by rfl) hm1p hy46)) ?_
      refine dG (i := 8) (listed' := #[I_,I_,I_,I_,I_,I_,I_,I_,I_,O_,O_,O_,O_,O_,O_,O_,O_,O_,O_]) rfl 41 hP27 rfl hK27 (fun wS hS => (r_fieldAddr Try.underlying59 rfl I3 (by decide) rfl)) ?_
      refine dG (i := 9) (listed' := #[I_,I_,I_,I_,I_,I_,I_,I_,I_,I_,O_,O_,O_,O_,O_,O_,O_,O_,O_]) rfl 41 hP27 rfl hK27 (fun wS hS => (r_load1 (v := .int _ _) Try.underlying3 rfl rfl (cellP (hk46 _ (hR1p.kept hS)) 0 rfl))) ?_
      refine dG (i := 10) (listed' := #[I_,I_,I_,I_,I_,I_,I_,I_,I_,I_,I_,O_,O_,O_,O_,O_,O_,O_,O_]) rfl 41 hP27 rfl hK27 (fun wS hS => (r_fieldAddr Try.underlying27 rfl I3 (by decide) rfl)) ?_
      refine dG (i := 11) (listed' := #[I_,I_,I_,I_,I_,I_,I_,I_,I_,I_,I_,I_,O_,O_,O_,O_,O_,O_,O_]) rfl 41 hP27 rfl hK27 (fun wS hS => (r_load1 (v := .int _ _) Try.underlying3 rfl rfl (cellB (hS.own.get (i := 0) rfl) rfl rfl))) ?_
      refine dt_geqG (i := 12) (listed' := #[I_,I_,I_,I_,I_,I_,I_,I_,I_,I_,I_,I_,I_,O_,O_,O_,O_,O_,O_]) (by rfl) (by kernel_rfl) (by rfl) hP27.u 41 (by rfl) rfl hK27 rfl rfl (fun h51 => ?_) (fun h51 => ?_)
      · replace h := iT h51 h
        refine dG (i := 13) (listed' := #[I_,I_,I_,I_,I_,I_,I_,I_,I_,I_,I_,I_,I_,I_,O_,O_,O_,O_,O_]) rfl 41 hP27 rfl hK27 (fun wS hS => (r_move (v := .bool true) rfl)) ?_
        refine dS (i := 14) (listed' := #[I_,I_,I_,I_,I_,I_,I_,I_,I_,I_,I_,I_,I_,I_,I_,O_,O_,O_,O_]) rfl 52 hP27 rfl hK27 ?_
        refine dS (i := 15) (listed' := #[I_,I_,I_,I_,I_,I_,I_,I_,I_,I_,I_,I_,I_,I_,I_,I_,O_,O_,O_]) rfl 52 hP27 rfl hK27 ?_
        refine dS (i := 16) (listed' := #[I_,I_,I_,I_,I_,I_,I_,I_,I_,I_,I_,I_,I_,I_,I_,I_,I_,O_,O_]) rfl 52 hP27 rfl hK27 ?_
        refine dG (i := 17) (listed' := #[I_,I_,I_,I_,I_,I_,I_,I_,I_,I_,I_,I_,I_,I_,I_,I_,I_,I_,O_]) rfl 41 hP27 rfl hK27 (fun wS hS => (r_pickT (v := .bool true) rfl rfl)) ?_
        refine dT (i := 18) (listed' := #[I_,I_,I_,I_,I_,I_,I_,I_,I_,I_,I_,I_,I_,I_,I_,I_,I_,I_,I_]) rfl hP27 hK27 (fun wS hS => (r_pickT (v := .bool true) rfl rfl)) ?_
        refine d_done (by kernel_rfl) ?_
        refine c_next ?_
        refine c_condT rfl ?_
        refine c_seq ?_
        refine c_reg ?_
        refine sv (r_assign (v := .bool false) rfl) ?_
        refine s_nil ?_
        refine c_next ?_
        refine c_ret ?_
        refine r_then ?_
        replace h := crossC h hr25
        refine e_1 (v := .bool false) Try.results16 rfl ?_
        obtain ⟨hO28, e28⟩ := hO26.drop1
        rw [← Option.some.inj h]
        exact ⟨rfl, hO28, (e2.trans (e15.trans (e26.trans e28)))⟩
      replace h := iF (Int.not_le.2 h51) h
      refine dG (i := 13) (listed' := #[I_,I_,I_,I_,I_,I_,I_,I_,I_,I_,I_,I_,I_,I_,O_,O_,O_,O_,O_]) rfl 41 hP27 rfl hK27 (fun wS hS => (r_move (v := .bool false) rfl)) ?_
      refine dG (i := 14) (listed' := #[I_,I_,I_,I_,I_,I_,I_,I_,I_,I_,I_,I_,I_,I_,I_,O_,O_,O_,O_]) rfl 52 hP27 rfl hK27 (fun wS hS => (r_fieldAddr Try.underlying27 rfl I3 (by decide) rfl)) ?_
      refine dG (i := 15) (listed' := #[I_,I_,I_,I_,I_,I_,I_,I_,I_,I_,I_,I_,I_,I_,I_,I_,O_,O_,O_]) rfl 52 hP27 rfl hK27 (fun wS hS => (r_load1 (v := .int _ _) Try.underlying3 rfl rfl (cellB (hS.own.get (i := 0) rfl) rfl rfl))) ?_
      refine dt_eqlG (i := 16) (listed' := #[I_,I_,I_,I_,I_,I_,I_,I_,I_,I_,I_,I_,I_,I_,I_,I_,I_,O_,O_]) (by rfl) (by kernel_rfl) (by rfl) hP27.u 52 (by rfl) rfl hK27 rfl rfl (fun h55 => ?_) (fun h55 => ?_)
      · replace h := iT h55 h
        refine dG (i := 17) (listed' := #[I_,I_,I_,I_,I_,I_,I_,I_,I_,I_,I_,I_,I_,I_,I_,I_,I_,I_,O_]) rfl 41 hP27 rfl hK27 (fun wS hS => (r_pickF (v := .bool true) rfl rfl)) ?_
        refine dT (i := 18) (listed' := #[I_,I_,I_,I_,I_,I_,I_,I_,I_,I_,I_,I_,I_,I_,I_,I_,I_,I_,I_]) rfl hP27 hK27 (fun wS hS => (r_pickT (v := .bool true) rfl rfl)) ?_
        refine d_done (by kernel_rfl) ?_
        refine c_next ?_
        refine c_condT rfl ?_
        refine c_seq ?_
        refine c_reg ?_
        refine sv (r_assign (v := .bool false) rfl) ?_
        refine s_nil ?_
        refine c_next ?_
        refine c_ret ?_
        refine r_then ?_
        replace h := crossC h hr25
        refine e_1 (v := .bool false) Try.results16 rfl ?_
        obtain ⟨hO29, e29⟩ := hO26.drop1
        rw [← Option.some.inj h]
        exact ⟨rfl, hO29, (e2.trans (e15.trans (e26.trans e29)))⟩
      replace h := iF h55 h
      refine dG (i := 17) (listed' := #[I_,I_,I_,I_,I_,I_,I_,I_,I_,I_,I_,I_,I_,I_,I_,I_,I_,I_,O_]) rfl 41 hP27 rfl hK27 (fun wS hS => (r_pickF (v := .bool false) rfl rfl)) ?_
      refine dT (i := 18) (listed' := #[I_,I_,I_,I_,I_,I_,I_,I_,I_,I_,I_,I_,I_,I_,I_,I_,I_,I_,I_]) rfl hP27 hK27 (fun wS hS => (r_pickT (v := .bool false) rfl rfl)) ?_
      refine d_done (by kernel_rfl) ?_
      refine c_next ?_
      refine c_condF rfl ?_
      refine c_skip ?_
      refine c_next ?_
      rw [← Option.some.inj h] at hr25
      exact ⟨_, rfl, hr25, rfl, hO26, e26⟩
    replace h := iF (Int.not_lt.2 h40) h
    refine dT (i := 2) (listed' := #[I_,I_,I_,O_,O_,O_,O_,O_,O_,O_,O_,O_,O_,O_,O_,O_,O_,O_,O_]) rfl hP27 hK27 (fun wS hS => (r_move (v := .bool false) rfl)) ?_
    refine dS (i := 3) (listed' := #[I_,I_,I_,I_,O_,O_,O_,O_,O_,O_,O_,O_,O_,O_,O_,O_,O_,O_,O_]) rfl 41 hP27 rfl hK27 ?_
    refine dS (i := 4) (listed' := #[I_,I_,I_,I_,I_,O_,O_,O_,O_,O_,O_,O_,O_,O_,O_,O_,O_,O_,O_]) rfl 41 hP27 rfl hK27 ?_
    refine dS (i := 5) (listed' := #[I_,I_,I_,I_,I_,I_,O_,O_,O_,O_,O_,O_,O_,O_,O_,O_,O_,O_,O_]) rfl 41 hP27 rfl hK27 ?_
    refine dS (i := 6) (listed' := #[I_,I_,I_,I_,I_,I_,I_,O_,O_,O_,O_,O_,O_,O_,O_,O_,O_,O_,O_]) rfl 41 hP27 rfl hK27 ?_
    refine dS (i := 7) (listed' := #[I_,I_,I_,I_,I_,I_,I_,I_,O_,O_,O_,O_,O_,O_,O_,O_,O_,O_,O_]) rfl 41 hP27 rfl hK27 ?_
    refine dS (i := 8) (listed' := #[I_,I_,I_,I_,I_,I_,I_,I_,I_,O_,O_,O_,O_,O_,O_,O_,O_,O_,O_]) rfl 41 hP27 rfl hK27 ?_
    refine dS (i := 9) (listed' := #[I_,I_,I_,I_,I_,I_,I_,I_,I_,I_,O_,O_,O_,O_,O_,O_,O_,O_,O_]) rfl 41 hP27 rfl hK27 ?_
    refine dS (i := 10) (listed' := #[I_,I_,I_,I_,I_,I_,I_,I_,I_,I_,I_,O_,O_,O_,O_,O_,O_,O_,O_]) rfl 41 hP27 rfl hK27 ?_
    refine dS (i := 11) (listed' := #[I_,I_,I_,I_,I_,I_,I_,I_,I_,I_,I_,I_,O_,O_,O_,O_,O_,O_,O_]) rfl 41 hP27 rfl hK27 ?_
    refine dS (i := 12) (listed' := #[I_,I_,I_,I_,I_,I_,I_,I_,I_,I_,I_,I_,I_,O_,O_,O_,O_,O_,O_]) rfl 41 hP27 rfl hK27 ?_
    refine dS (i := 13) (listed' := #[I_,I_,I_,I_,I_,I_,I_,I_,I_,I_,I_,I_,I_,I_,O_,O_,O_,O_,O_]) rfl 41 hP27 rfl hK27 ?_
    refine dU (i := 14) (listed' := #[I_,I_,I_,I_,I_,I_,I_,I_,I_,I_,I_,I_,I_,I_,I_,O_,O_,O_,O_]) rfl 52 hP27 hK27 ?_
    refine dU (i := 15) (listed' := #[I_,I_,I_,I_,I_,I_,I_,I_,I_,I_,I_,I_,I_,I_,I_,I_,O_,O_,O_]) rfl 52 hP27 hK27 ?_
    refine dU (i := 16) (listed' := #[I_,I_,I_,I_,I_,I_,I_,I_,I_,I_,I_,I_,I_,I_,I_,I_,I_,O_,O_]) rfl 52 hP27 hK27 ?_
    refine dS (i := 17) (listed' := #[I_,I_,I_,I_,I_,I_,I_,I_,I_,I_,I_,I_,I_,I_,I_,I_,I_,I_,O_]) rfl 41 hP27 rfl hK27 ?_
    refine dT (i := 18) (listed' := #[I_,I_,I_,I_,I_,I_,I_,I_,I_,I_,I_,I_,I_,I_,I_,I_,I_,I_,I_]) rfl hP27 hK27 (fun wS hS => (r_pickF (v := .bool false) rfl rfl)) ?_
    refine d_done (by kernel_rfl) ?_
    refine c_next ?_
    refine c_condF rfl ?_
    refine c_skip ?_
    refine c_next ?_
    rw [← Option.some.inj h] at hr25
    exact ⟨_, rfl, hr25, rfl, hO26, e26⟩
  intro gg25 w25 hI25
  clear h hr25
  obtain ⟨h, hsc2_1, hO25, e25⟩ := hI25
  replace h := hG_ hG25 h; clear hG25
  obtain ⟨qq25, rfl⟩ := fr1 hsc2_1
  clear hsc2_1
  refine c_seq ?_
  refine c_reg ?_
  refine sv (r_fieldAddr Try.underlying27 rfl I24 (by decide) rfl) ?_
  refine s_load1 (v := .slice _ _ _) Try.underlying24 rfl rfl (cellB (hO25.get (i := 0) rfl) rfl rfl) ?_
  refine sv (r_fieldAddr Try.underlying27 rfl I3 (by decide) rfl) ?_
  refine s_load1 (v := .int _ _) Try.underlying3 rfl rfl (cellB (hO25.get (i := 0) rfl) rfl rfl) ?_
  obtain ⟨y63, hy63, h⟩ := bindE h
  refine s_call cf40 rfl (c_roster_Find x0.Roster x0.Owner aP0 mP0 cP0 _ hy63 _ _ hm0p hc0p (hR0p.ext e25) hO25) ?_
  rintro er63 w33 ⟨rfl, hO33, e33⟩
  refine ⟨_, rfl, ?_⟩
  refine sv (r_move (v := .tuple _) rfl) ?_
  refine sv (r_extract rfl rfl) ?_
  refine sv (r_extract rfl rfl) ?_
  refine s_alloc I56 hO33 ?_
  intro b4 w34 hz4 hl4 hO34 e34
  have hO35 : Own w34 ((b4, .cells #[(.int .i64 0), (.int .i64 0), (.bool false), (.int .i64 0)] 56 (0, 0)) :: ((b1, .cells #[(.int .i64 x0.Epoch), (.int .i64 x0.Owner), (.int .i64 x0.Next), (.slice aP0 mP0 cP0), (.slice aP1 mP1 cP1)] 27 (0, 0)) :: L)) := hO34
  refine s_storeN (vs := #[(.int .i64 y63.1.Id), (.int .i64 y63.1.Times), (.bool y63.1.Gone), (.int .i64 y63.1.Last)]) I56 rfl rfl rfl hO35 (i := 0) rfl (Nat.le_of_ble_eq_true rfl) (List.all_eq_true.1 rfl) ?_
  intro w37 hO37 e37
  have hO38 : Own w37 ((b4, .cells #[(.int .i64 y63.1.Id), (.int .i64 y63.1.Times), (.bool y63.1.Gone), (.int .i64 y63.1.Last)] 56 (0, 0)) :: ((b1, .cells #[(.int .i64 x0.Epoch), (.int .i64 x0.Owner), (.int .i64 x0.Next), (.slice aP0 mP0 cP0), (.slice aP1 mP1 cP1)] 27 (0, 0)) :: L)) := hO37
  refine sv (r_assign (v := .bool _) rfl) ?_
  refine s_nil ?_
  refine c_next ?_
  refine c_seq ?_
  refine c_reg ?_
  refine sv (r_fieldAddr Try.underlying27 rfl I3 (by decide) rfl) ?_
  refine s_load1 (v := .int _ _) Try.underlying3 rfl rfl (cellB (hO38.get (i := 1) rfl) rfl rfl) ?_
  refine c_eql rfl rfl (fun h68 => ?_) (fun h68 => ?_)
  · replace h := iT h68 h
    refine sv (r_move (v := .bool true) rfl) ?_
    refine g_skip 69 (by rfl) rfl (by rfl) ?_
    refine g_skip 69 (by rfl) rfl (by rfl) ?_
    refine g_skipU 71 (by rfl) rfl ?_
    refine g_skipU 71 (by rfl) rfl ?_
    refine g_skipU 71 (by rfl) rfl ?_
    refine g_skip 69 (by rfl) rfl (by rfl) ?_
    refine sv (r_pickT (v := .bool true) rfl rfl) ?_
    refine sv (r_assign (v := .bool true) rfl) ?_
    refine s_nil ?_
    refine c_next ?_
    refine c_ret ?_
    refine e_1 (v := .bool true) Try.results16 rfl ?_
    obtain ⟨hO40, e40⟩ := hO38.drop1
    obtain ⟨hO41, e41⟩ := hO40.drop1
    rw [← Option.some.inj h]
    exact ⟨rfl, hO41, (e2.trans (e15.trans (e25.trans (e33.trans (e34.trans (e37.trans (e40.trans e41)))))))⟩
  replace h := iF h68 h
  refine sv (r_move (v := .bool false) rfl) ?_
  refine g_do 69 (by rfl) rfl ?_
  refine sv (r_move (v := .bool _) rfl) ?_
  refine g_do 69 (by rfl) rfl ?_
  refine sv (r_move (v := .bool _) rfl) ?_
  rcases Bool.eq_false_or_eq_true (y63.2) with hb42 | hb42
  · replace h := iT hb42 h
    refine g_do 71 (by rfl) (congrArg Value.bool hb42) ?_
    refine sv (r_fieldAddr Try.underlying56 rfl I4 (by decide) rfl) ?_
    refine g_do 71 (by rfl) (congrArg Value.bool hb42) ?_
    refine s_load1 (v := .bool _) Try.underlying4 rfl rfl (cellB (hO38.get (i := 0) rfl) rfl rfl) ?_
    refine g_do 71 (by rfl) (congrArg Value.bool hb42) ?_
    refine sv (r_not (b := y63.1.Gone) rfl) ?_
    refine g_do 69 (by rfl) rfl ?_
    refine sv (r_pickT (v := .bool _) (by exact (congrArg Value.bool hb42)) rfl) ?_
    refine sv (r_pickF (v := .bool _) rfl rfl) ?_
    refine sv (r_assign (v := .bool _) rfl) ?_
    refine s_nil ?_
    refine c_next ?_
    refine c_ret ?_
    refine e_1 (v := .bool _) Try.results16 rfl ?_
    obtain ⟨hO43, e43⟩ := hO38.drop1
    obtain ⟨hO44, e44⟩ := hO43.drop1
    rw [← Option.some.inj h]
    exact ⟨rfl, hO44, (e2.trans (e15.trans (e25.trans (e33.trans (e34.trans (e37.trans (e43.trans e44)))))))⟩
  replace h := iF (nt hb42) h
  refine g_skip 71 (by rfl) (congrArg Value.bool hb42) (by rfl) ?_
  refine g_skip 71 (by rfl) (congrArg Value.bool hb42) (by rfl) ?_
  refine g_skip 71 (by rfl) (congrArg Value.bool hb42) (by rfl) ?_
  refine g_do 69 (by rfl) rfl ?_
  refine sv (r_pickF (v := .bool false) (by exact (congrArg Value.bool hb42)) rfl) ?_
  refine sv (r_pickF (v := .bool false) rfl rfl) ?_
  refine sv (r_assign (v := .bool false) rfl) ?_
  refine s_nil ?_
  refine c_next ?_
  refine c_ret ?_
  refine e_1 (v := .bool false) Try.results16 rfl ?_
  obtain ⟨hO45, e45⟩ := hO38.drop1
  obtain ⟨hO46, e46⟩ := hO45.drop1
  rw [← Option.some.inj h]
  exact ⟨rfl, hO46, (e2.trans (e15.trans (e25.trans (e33.trans (e34.trans (e37.trans (e45.trans e46)))))))⟩
theorem c_batonlaw27_ClaimSpent (x0 : T_claim_State) (x1 : T_claim_Op) (x2 : (List T_claim_Op)) (aP0 : Option Addr) (mP0 cP0 : Nat) (aP1 : Option Addr) (mP1 cP1 : Nat) (aP2 : Option Addr) (mP2 cP2 : Nat)  (r : Bool) (h : F_batonlaw27_ClaimSpent x0 x1 x2 = some r) (w : World) (L : Hp) (hm0p : x0.Roster.length = mP0) (hc0p : mP0 ≤ cP0) (hR0p : Rd w L aP0 (fl e_roster_Device x0.Roster)) (hm1p : x0.Tickets.length = mP1) (hc1p : mP1 ≤ cP1) (hR1p : Rd w L aP1 (fl e_ticket_Ticket x0.Tickets)) (hm2p : x2.length = mP2) (hc2p : mP2 ≤ cP2) (hR2p : Rd w L aP2 (fl e_claim_Op x2)) (hO : Own w L) :
    Calls Try.prog 4 #[(.agg #[(.int .i64 x0.Epoch), (.int .i64 x0.Owner), (.int .i64 x0.Next), (.slice aP0 mP0 cP0), (.slice aP1 mP1 cP1)]), (.agg #[(.int .i64 x1.Kind), (.int .i64 x1.Device), (.int .i64 x1.Request), (.int .i64 x1.Ticket), (.int .i64 x1.For), (.int .i64 x1.Until), (.int .i64 x1.Now)]), (.slice aP2 mP2 cP2)] w fun en w' => en = .returned (.bool r) ∧ Own w' L ∧ Ext w L w' L := by
  unfold F_batonlaw27_ClaimSpent at h
  refine enter (n := 72) [(.agg #[(.int .i64 x0.Epoch), (.int .i64 x0.Owner), (.int .i64 x0.Next), (.slice aP0 mP0 cP0), (.slice aP1 mP1 cP1)]), (.agg #[(.int .i64 x1.Kind), (.int .i64 x1.Device), (.int .i64 x1.Request), (.int .i64 x1.Ticket), (.int .i64 x1.For), (.int .i64 x1.Until), (.int .i64 x1.Now)]), (.slice aP2 mP2 cP2)] Try.func4 rfl rfl (Nat.le_of_ble_eq_true rfl) ?_
  refine c_seq ?_
  refine c_reg ?_
  refine s_box (v := (.agg #[(.int .i64 x0.Epoch), (.int .i64 x0.Owner), (.int .i64 x0.Next), (.slice aP0 mP0 cP0), (.slice aP1 mP1 cP1)])) rfl hO ?_
  intro b3 w3 hz3 hl3 hO3 e3
  have hO4 : Own w3 ((b3, .cells #[(.int .i64 x0.Epoch), (.int .i64 x0.Owner), (.int .i64 x0.Next), (.slice aP0 mP0 cP0), (.slice aP1 mP1 cP1)] 27 (0, 0)) :: L) := hO3
  refine s_box (v := (.agg #[(.int .i64 x1.Kind), (.int .i64 x1.Device), (.int .i64 x1.Request), (.int .i64 x1.Ticket), (.int .i64 x1.For), (.int .i64 x1.Until), (.int .i64 x1.Now)])) rfl hO4 ?_
  intro b4 w6 hz4 hl4 hO6 e6
  have hO7 : Own w6 ((b4, .cells #[(.int .i64 x1.Kind), (.int .i64 x1.Device), (.int .i64 x1.Request), (.int .i64 x1.Ticket), (.int .i64 x1.For), (.int .i64 x1.Until), (.int .i64 x1.Now)] 37 (0, 0)) :: ((b3, .cells #[(.int .i64 x0.Epoch), (.int .i64 x0.Owner), (.int .i64 x0.Next), (.slice aP0 mP0 cP0), (.slice aP1 mP1 cP1)] 27 (0, 0)) :: L)) := hO6
  refine sv (r_assign (v := .bool false) rfl) ?_
  refine s_nil ?_
  refine c_next ?_
  refine c_seq ?_
  refine c_seq ?_
  refine c_reg ?_
  obtain ⟨y12, hy12, h⟩ := bindE h
  refine s_call cf7 rfl (c_batonlaw27_awake _ hy12 _ _ hO7) ?_
  rintro er12 w12 ⟨rfl, hO12, e12⟩
  refine ⟨_, rfl, ?_⟩
  refine sv (r_not (b := y12) rfl) ?_
  refine s_nil ?_
  refine c_next ?_
  rcases Bool.eq_false_or_eq_true (y12) with hb13 | hb13
  · replace h := iT hb13 h
    refine c_condF (congrArg Value.bool (nnt hb13)) ?_
    refine c_skip ?_
    refine c_next ?_
    refine c_seq ?_
    have hR0p := (hR0p.ext (e3.trans (e6.trans e12)))
    have hR1p := (hR1p.ext (e3.trans (e6.trans e12)))
    have hR2p := (hR2p.ext (e3.trans (e6.trans e12)))
    obtain ⟨oc26, G26, hG26, h, hr26⟩ := bindG h
    refine c_cutL hO12 (fun Lc f0 g w' => ∃ (xc1_t26 : Bool), (G26 xc1_t26 = some r) ∧ g 2 = (.slice aP2 mP2 cP2) ∧ g 3 = (.pointer (some ⟨b3, 0, none⟩)) ∧ g 4 = (.pointer (some ⟨b4, 0, none⟩)) ∧ g 26 = (.bool xc1_t26) ∧ Own w' ((b3, .cells #[(.int .i64 x0.Epoch), (.int .i64 x0.Owner), (.int .i64 x0.Next), (.slice aP0 mP0 cP0), (.slice aP1 mP1 cP1)] 27 (0, 0)) :: ((b4, .cells #[(.int .i64 x1.Kind), (.int .i64 x1.Device), (.int .i64 x1.Request), (.int .i64 x1.Ticket), (.int .i64 x1.For), (.int .i64 x1.Until), (.int .i64 x1.Now)] 37 (0, 0)) :: L)) ∧ Ext w12 Lc w' ((b3, .cells #[(.int .i64 x0.Epoch), (.int .i64 x0.Owner), (.int .i64 x0.Next), (.slice aP0 mP0 cP0), (.slice aP1 mP1 cP1)] 27 (0, 0)) :: ((b4, .cells #[(.int .i64 x1.Kind), (.int .i64 x1.Device), (.int .i64 x1.Request), (.int .i64 x1.Ticket), (.int .i64 x1.For), (.int .i64 x1.Until), (.int .i64 x1.Now)] 37 (0, 0)) :: L))) ?_ ?_
    · skip
      refine c_reg ?_
      refine s_loadAll Try.underlying27 rfl I27 rfl (hO12.get (i := 1) rfl) rfl rfl ?_
      obtain ⟨y15, hy15, h⟩ := bindE h
      refine s_call cf15 rfl (c_batonlaw27_Few x0 aP0 mP0 cP0 aP1 mP1 cP1 _ hy15 _ _ hm0p hc0p hR0p hm1p hc1p hR1p hO12) ?_
      rintro er15 w27 ⟨rfl, hO27, e27⟩
      refine ⟨_, rfl, ?_⟩
      refine sv (r_not (b := y15) rfl) ?_
      refine sv (r_move (v := .bool _) rfl) ?_
      rcases Bool.eq_false_or_eq_true (y15) with hb28 | hb28
      · replace h := iT hb28 h
        refine g_do 17 (by rfl) (congrArg Value.bool (nnt hb28)) ?_
        refine s_loadAll Try.underlying27 rfl I27 rfl (hO27.get (i := 1) rfl) rfl rfl ?_
        refine g_do 17 (by rfl) (congrArg Value.bool (nnt hb28)) ?_
        obtain ⟨y19, hy19, h⟩ := bindE h
        refine s_call cf16 rfl (c_claim_Right x0 aP0 mP0 cP0 aP1 mP1 cP1 _ hy19 _ _ hm0p hc0p (hR0p.ext e27) hm1p hc1p (hR1p.ext e27) hO27) ?_
        rintro er19 w29 ⟨rfl, hO29, e29⟩
        refine ⟨_, rfl, ?_⟩
        refine g_do 17 (by rfl) (congrArg Value.bool (nnt hb28)) ?_
        refine sv (r_not (b := y19) rfl) ?_
        refine sv (r_pickF (v := .bool _) (by exact (congrArg Value.bool (nnt hb28))) rfl) ?_
        refine sv (r_move (v := .bool _) rfl) ?_
        rcases Bool.eq_false_or_eq_true (y19) with hb30 | hb30
        · replace h := iT hb30 h
          refine g_do 22 (by rfl) (congrArg Value.bool (nnt hb30)) ?_
          refine sv (r_move (v := .slice _ _ _) rfl) ?_
          refine g_do 22 (by rfl) (congrArg Value.bool (nnt hb30)) ?_
          refine sv (r_lenL (xs := x2) Try.underlying22 rfl hm2p) ?_
          refine g_do 22 (by rfl) (congrArg Value.bool (nnt hb30)) ?_
          refine c_gtr rfl rfl (fun h25 => ?_) (fun h25 => ?_)
          · replace h := iT h25 h
            refine sv (r_pickF (v := .bool true) (by exact (congrArg Value.bool (nnt hb30))) rfl) ?_
            refine s_nil ?_
            refine c_next ?_
            rw [← Option.some.inj h] at hr26
            obtain ⟨hO31, e31⟩ := hO29.permE (pmbC pmb0)
            exact ⟨_, rfl, true, hr26, rfl, rfl, rfl, rfl, hO31, (e27.trans (e29.trans e31))⟩
          replace h := iF (Int.not_lt.2 h25) h
          refine sv (r_pickF (v := .bool false) (by exact (congrArg Value.bool (nnt hb30))) rfl) ?_
          refine s_nil ?_
          refine c_next ?_
          rw [← Option.some.inj h] at hr26
          obtain ⟨hO32, e32⟩ := hO29.permE (pmbC pmb0)
          exact ⟨_, rfl, false, hr26, rfl, rfl, rfl, rfl, hO32, (e27.trans (e29.trans e32))⟩
        replace h := iF (nt hb30) h
        refine g_skip 22 (by rfl) (congrArg Value.bool (nnf hb30)) (by rfl) ?_
        refine g_skip 22 (by rfl) (congrArg Value.bool (nnf hb30)) (by rfl) ?_
        refine g_skip 22 (by rfl) (congrArg Value.bool (nnf hb30)) (by rfl) ?_
        refine sv (r_pickT (v := .bool true) (by exact (congrArg Value.bool (nnf hb30))) rfl) ?_
        refine s_nil ?_
        refine c_next ?_
        rw [← Option.some.inj h] at hr26
        obtain ⟨hO33, e33⟩ := hO29.permE (pmbC pmb0)
        exact ⟨_, rfl, true, hr26, rfl, rfl, rfl, rfl, hO33, (e27.trans (e29.trans e33))⟩
      replace h := iF (nt hb28) h
      refine g_skip 17 (by rfl) (congrArg Value.bool (nnf hb28)) (by rfl) ?_
      refine g_skip 17 (by rfl) (congrArg Value.bool (nnf hb28)) (by rfl) ?_
      refine g_skip 17 (by rfl) (congrArg Value.bool (nnf hb28)) (by rfl) ?_
      refine sv (r_pickT (v := .bool true) (by exact (congrArg Value.bool (nnf hb28))) rfl) ?_
      refine sv (r_move (v := .bool true) rfl) ?_
      refine g_skip 22 (by rfl) rfl (by rfl) ?_
      refine g_skip 22 (by rfl) rfl (by rfl) ?_
      refine g_skip 22 (by rfl) rfl (by rfl) ?_
      refine sv (r_pickT (v := .bool true) rfl rfl) ?_
      refine s_nil ?_
      refine c_next ?_
      rw [← Option.some.inj h] at hr26
      obtain ⟨hO34, e34⟩ := hO27.permE (pmbC pmb0)
      exact ⟨_, rfl, true, hr26, rfl, rfl, rfl, rfl, hO34, (e27.trans e34)⟩
    intro gg26 w26 hI26
    clear h hr26
    obtain ⟨xc1_t26, h, hsc1_2, hsc1_3, hsc1_4, hsc1_26, hO26, e26⟩ := hI26
    replace h := hG_ hG26 h; clear hG26
    obtain ⟨qq26, rfl⟩ := fr4 hsc1_2 hsc1_3 hsc1_4 hsc1_26
    clear hsc1_2 hsc1_3 hsc1_4 hsc1_26
    rcases Bool.eq_false_or_eq_true (xc1_t26) with hb35 | hb35
    · replace h := iT hb35 h
      refine c_condT (congrArg Value.bool hb35) ?_
      refine c_seq ?_
      refine c_reg ?_
      refine sv (r_assign (v := .bool true) rfl) ?_
      refine s_nil ?_
      refine c_next ?_
      refine c_ret ?_
      refine r_then ?_
      refine e_1 (v := .bool true) Try.results4 rfl ?_
      obtain ⟨hO36, e36⟩ := hO26.drop1
      obtain ⟨hO37, e37⟩ := hO36.drop1
      rw [← Option.some.inj h]
      exact ⟨rfl, hO37, (e3.trans (e6.trans (e12.trans (e26.trans (e36.trans e37)))))⟩
    replace h := iF (nt hb35) h
    refine c_condF (congrArg Value.bool hb35) ?_
    refine c_skip ?_
    refine c_next ?_
    refine c_seq ?_
    refine c_reg ?_
    refine sv (r_fieldAddr Try.underlying37 rfl I3 (by decide) rfl) ?_
    refine s_store1 (v := (.int .i64 4)) (o := 0) I3 rfl rfl rfl hO26 (i := 1) rfl rfl rfl ?_
    intro w39 hO39 e39
    have hO40 : Own w39 ((b3, .cells #[(.int .i64 x0.Epoch), (.int .i64 x0.Owner), (.int .i64 x0.Next), (.slice aP0 mP0 cP0), (.slice aP1 mP1 cP1)] 27 (0, 0)) :: ((b4, .cells #[(.int .i64 4), (.int .i64 x1.Device), (.int .i64 x1.Request), (.int .i64 x1.Ticket), (.int .i64 x1.For), (.int .i64 x1.Until), (.int .i64 x1.Now)] 37 (0, 0)) :: L)) := hO39
    refine s_nil ?_
    refine c_next ?_
    refine c_seq ?_
    refine c_reg ?_
    refine s_loadAll Try.underlying27 rfl I27 rfl (hO40.get (i := 0) rfl) rfl rfl ?_
    refine s_loadAll Try.underlying37 rfl I37 rfl (hO40.get (i := 1) rfl) rfl rfl ?_
    obtain ⟨y31, hy31, h⟩ := bindE h
    refine s_call cf9 rfl (c_claim_Do x0 ({ Kind := 4, Device := x1.Device, Request := x1.Request, Ticket := x1.Ticket, For := x1.For, Until := x1.Until, Now := x1.Now } : T_claim_Op) aP0 mP0 cP0 aP1 mP1 cP1 _ hy31 _ _ hm0p hc0p (hR0p.ext (e26.trans e39)) hm1p hc1p (hR1p.ext (e26.trans e39)) hO40) ?_
    rintro er31 w45 ⟨a31_0, m31_0, c31_0, S31_0, a31_1, m31_1, c31_1, S31_1, rfl, hm31_0, hS31_0, hm31_1, hS31_1, hO45, e45⟩
    refine ⟨_, rfl, ?_⟩
    refine sv (r_move (v := .tuple _) rfl) ?_
    refine sv (r_extract rfl rfl) ?_
    refine sv (r_extract rfl rfl) ?_
    refine s_alloc I27 hO45 ?_
    intro b7 w46 hz7 hl7 hO46 e46
    have hO47 : Own w46 ((b7, .cells #[(.int .i64 0), (.int .i64 0), (.int .i64 0), (.slice none 0 0), (.slice none 0 0)] 27 (0, 0)) :: (S31_0 ++ (S31_1 ++ ((b3, .cells #[(.int .i64 x0.Epoch), (.int .i64 x0.Owner), (.int .i64 x0.Next), (.slice aP0 mP0 cP0), (.slice aP1 mP1 cP1)] 27 (0, 0)) :: ((b4, .cells #[(.int .i64 4), (.int .i64 x1.Device), (.int .i64 x1.Request), (.int .i64 x1.Ticket), (.int .i64 x1.For), (.int .i64 x1.Until), (.int .i64 x1.Now)] 37 (0, 0)) :: L))))) := hO46
    refine s_storeN (vs := #[(.int .i64 y31.1.Epoch), (.int .i64 y31.1.Owner), (.int .i64 y31.1.Next), (.slice a31_0 m31_0 c31_0), (.slice a31_1 m31_1 c31_1)]) I27 rfl rfl rfl hO47 (i := 0) rfl (Nat.le_of_ble_eq_true rfl) (List.all_eq_true.1 rfl) ?_
    intro w49 hO49 e49
    have hO50 : Own w49 ((b7, .cells #[(.int .i64 y31.1.Epoch), (.int .i64 y31.1.Owner), (.int .i64 y31.1.Next), (.slice a31_0 m31_0 c31_0), (.slice a31_1 m31_1 c31_1)] 27 (0, 0)) :: (S31_0 ++ (S31_1 ++ ((b3, .cells #[(.int .i64 x0.Epoch), (.int .i64 x0.Owner), (.int .i64 x0.Next), (.slice aP0 mP0 cP0), (.slice aP1 mP1 cP1)] 27 (0, 0)) :: ((b4, .cells #[(.int .i64 4), (.int .i64 x1.Device), (.int .i64 x1.Request), (.int .i64 x1.Ticket), (.int .i64 x1.For), (.int .i64 x1.Until), (.int .i64 x1.Now)] 37 (0, 0)) :: L))))) := hO49
    refine sv (r_assign (v := .int _ _) rfl) ?_
    refine s_nil ?_
    refine c_next ?_
    refine c_seq ?_
    have hR0p := (hR0p.ext (e26.trans (e39.trans (e45.trans (e46.trans e49)))))
    have hR1p := (hR1p.ext (e26.trans (e39.trans (e45.trans (e46.trans e49)))))
    have hR2p := (hR2p.ext (e26.trans (e39.trans (e45.trans (e46.trans e49)))))
    obtain ⟨oc52, G52, hG52, h, hr52⟩ := bindG h
    refine c_cutL hO50 (fun Lc f0 g w' => ∃ (xc2_t35 : Bool), (G52 xc2_t35 = some r) ∧ g 2 = (.slice aP2 mP2 cP2) ∧ g 4 = (.pointer (some ⟨b4, 0, none⟩)) ∧ g 7 = (.pointer (some ⟨b7, 0, none⟩)) ∧ g 35 = (.bool xc2_t35) ∧ Own w' (S31_0 ++ (S31_1 ++ ((b4, .cells #[(.int .i64 4), (.int .i64 x1.Device), (.int .i64 x1.Request), (.int .i64 x1.Ticket), (.int .i64 x1.For), (.int .i64 x1.Until), (.int .i64 x1.Now)] 37 (0, 0)) :: ((b7, .cells #[(.int .i64 y31.1.Epoch), (.int .i64 y31.1.Owner), (.int .i64 y31.1.Next), (.slice a31_0 m31_0 c31_0), (.slice a31_1 m31_1 c31_1)] 27 (0, 0)) :: L)))) ∧ Ext w49 Lc w' (S31_0 ++ (S31_1 ++ ((b4, .cells #[(.int .i64 4), (.int .i64 x1.Device), (.int .i64 x1.Request), (.int .i64 x1.Ticket), (.int .i64 x1.For), (.int .i64 x1.Until), (.int .i64 x1.Now)] 37 (0, 0)) :: ((b7, .cells #[(.int .i64 y31.1.Epoch), (.int .i64 y31.1.Owner), (.int .i64 y31.1.Next), (.slice a31_0 m31_0 c31_0), (.slice a31_1 m31_1 c31_1)] 27 (0, 0)) :: L))))) ?_ ?_
    · skip
      refine c_reg ?_
      refine sv (r_move (v := .int _ _) rfl) ?_
      refine c_neq rfl rfl (fun h35 => ?_) (fun h35 => ?_)
      · replace h := iT h35 h
        refine s_nil ?_
        refine c_next ?_
        rw [← Option.some.inj h] at hr52
        obtain ⟨hO53, e53⟩ := hO50.permE (pmbC (pmbA (pmbA pmb0)))
        obtain ⟨hO54, e54⟩ := hO53.drop1
        obtain ⟨hO55, e55⟩ := hO54.permE (pmbC (pmbA (pmbA pmb0)))
        obtain ⟨hO56, e56⟩ := hO55.permE (pmC (pmC (pmA pm0)))
        obtain ⟨hO57, e57⟩ := hO56.permE (pmA (pmC (pmC pm0)))
        exact ⟨_, rfl, true, hr52, rfl, rfl, rfl, rfl, hO57, (e53.trans (e54.trans (e55.trans (e56.trans e57))))⟩
      replace h := iF (Classical.not_not.2 h35) h
      refine s_nil ?_
      refine c_next ?_
      rw [← Option.some.inj h] at hr52
      obtain ⟨hO58, e58⟩ := hO50.permE (pmbC (pmbA (pmbA pmb0)))
      obtain ⟨hO59, e59⟩ := hO58.drop1
      obtain ⟨hO60, e60⟩ := hO59.permE (pmbC (pmbA (pmbA pmb0)))
      obtain ⟨hO61, e61⟩ := hO60.permE (pmC (pmC (pmA pm0)))
      obtain ⟨hO62, e62⟩ := hO61.permE (pmA (pmC (pmC pm0)))
      exact ⟨_, rfl, false, hr52, rfl, rfl, rfl, rfl, hO62, (e58.trans (e59.trans (e60.trans (e61.trans e62))))⟩
    intro gg52 w52 hI52
    clear h hr52
    obtain ⟨xc2_t35, h, hsc2_2, hsc2_4, hsc2_7, hsc2_35, hO52, e52⟩ := hI52
    replace h := hG_ hG52 h; clear hG52
    obtain ⟨qq52, rfl⟩ := fr4 hsc2_2 hsc2_4 hsc2_7 hsc2_35
    clear hsc2_2 hsc2_4 hsc2_7 hsc2_35
    rcases Bool.eq_false_or_eq_true (xc2_t35) with hb63 | hb63
    · replace h := iT hb63 h
      refine c_condT (congrArg Value.bool hb63) ?_
      refine c_seq ?_
      refine c_reg ?_
      refine sv (r_assign (v := .bool true) rfl) ?_
      refine s_nil ?_
      refine c_next ?_
      refine c_ret ?_
      refine r_then ?_
      refine e_1 (v := .bool true) Try.results4 rfl ?_
      have hR64 := (hS31_0.drop hO52).2.2
      obtain ⟨hO64, e64⟩ := hO52.dropS
      have hR65 := (hS31_1.drop hO64).2.2
      obtain ⟨hO65, e65⟩ := hO64.dropS
      obtain ⟨hO66, e66⟩ := hO65.drop1
      obtain ⟨hO67, e67⟩ := hO66.drop1
      rw [← Option.some.inj h]
      exact ⟨rfl, hO67, (e3.trans (e6.trans (e12.trans (e26.trans (e39.trans (e45.trans (e46.trans (e49.trans (e52.trans (e64.trans (e65.trans (e66.trans e67))))))))))))⟩
    replace h := iF (nt hb63) h
    refine c_condF (congrArg Value.bool hb63) ?_
    refine c_skip ?_
    refine c_next ?_
    refine c_seq ?_
    refine c_seq ?_
    refine c_reg ?_
    refine sv (r_assign (v := .int _ _) rfl) ?_
    refine s_nil ?_
    refine c_next ?_
    refine c_block ?_
    have hR0p := (hR0p.ext e52)
    have hR1p := (hR1p.ext e52)
    have hR2p := (hR2p.ext e52)
    obtain ⟨kl236, hkl236⟩ := loop_iff.1 h
    clear h
    refine c_loopL hO52 (fun Lc f0 m g wl => ∃ (xl3_t9 : Int) (xl3_b7 : T_claim_State) (al3_0 : Option Addr) (ml3_0 cl3_0 : Nat) (Sl3_0 : Hp) (al3_1 : Option Addr) (ml3_1 cl3_1 : Nat) (Sl3_1 : Hp), (iterK (batonlaw27_ClaimSpent_l3 x1 x2) m (xl3_t9, xl3_b7) = some r) ∧ g 2 = (.slice aP2 mP2 cP2) ∧ g 4 = (.pointer (some ⟨b4, 0, none⟩)) ∧ g 7 = (.pointer (some ⟨b7, 0, none⟩)) ∧ g 9 = (.int .i64 xl3_t9) ∧ xl3_b7.Roster.length = ml3_0 ∧ OwnSl 56 4 al3_0 ml3_0 cl3_0 (fl e_roster_Device xl3_b7.Roster) Sl3_0 ∧ xl3_b7.Tickets.length = ml3_1 ∧ OwnSl 59 3 al3_1 ml3_1 cl3_1 (fl e_ticket_Ticket xl3_b7.Tickets) Sl3_1 ∧ Own wl (Sl3_0 ++ (Sl3_1 ++ ((b4, .cells #[(.int .i64 4), (.int .i64 x1.Device), (.int .i64 x1.Request), (.int .i64 x1.Ticket), (.int .i64 x1.For), (.int .i64 x1.Until), (.int .i64 x1.Now)] 37 (0, 0)) :: ((b7, .cells #[(.int .i64 xl3_b7.Epoch), (.int .i64 xl3_b7.Owner), (.int .i64 xl3_b7.Next), (.slice al3_0 ml3_0 cl3_0), (.slice al3_1 ml3_1 cl3_1)] 27 (0, 0)) :: L)))) ∧ Ext w52 Lc wl (Sl3_0 ++ (Sl3_1 ++ ((b4, .cells #[(.int .i64 4), (.int .i64 x1.Device), (.int .i64 x1.Request), (.int .i64 x1.Ticket), (.int .i64 x1.For), (.int .i64 x1.Until), (.int .i64 x1.Now)] 37 (0, 0)) :: ((b7, .cells #[(.int .i64 xl3_b7.Epoch), (.int .i64 xl3_b7.Owner), (.int .i64 xl3_b7.Next), (.slice al3_0 ml3_0 cl3_0), (.slice al3_1 ml3_1 cl3_1)] 27 (0, 0)) :: L))))) kl236 ?_ ?_
    · skip
      exact ⟨0, ({ Epoch := y31.1.Epoch, Owner := y31.1.Owner, Next := y31.1.Next, Roster := y31.1.Roster, Tickets := y31.1.Tickets } : T_claim_State), a31_0, m31_0, c31_0, S31_0, a31_1, m31_1, c31_1, S31_1, hkl236, rfl, rfl, rfl, rfl, hm31_0, hS31_0, hm31_1, hS31_1, hO52, (Ext.refl _ _)⟩
    clear hkl236
    intro mm236 gg236 w236 hI236
    obtain ⟨xl3_t9, xl3_b7, al3_0, ml3_0, cl3_0, Sl3_0, al3_1, ml3_1, cl3_1, Sl3_1, hkl236, hsl3_2, hsl3_4, hsl3_7, hsl3_9, hml3_0, hSl3_0, hml3_1, hSl3_1, hO236, e236⟩ := hI236
    obtain ⟨kl236, yl236, rfl, h, hyl236⟩ := iterE hkl236
    clear hkl236
    obtain ⟨qq236, rfl⟩ := fr4 hsl3_2 hsl3_4 hsl3_7 hsl3_9
    clear hsl3_2 hsl3_4 hsl3_7 hsl3_9
    refine c_seq ?_
    have hR0p := (hR0p.ext e236)
    have hR1p := (hR1p.ext e236)
    have hR2p := (hR2p.ext e236)
    obtain ⟨oc237, G237, hG237, h, hr237⟩ := bindG h
    refine c_cutL hO236 (fun Lc f0 g w' => ∃ (xc4_t39 : Bool), (G237 xc4_t39 = some yl236) ∧ g 2 = (.slice aP2 mP2 cP2) ∧ g 4 = (.pointer (some ⟨b4, 0, none⟩)) ∧ g 7 = (.pointer (some ⟨b7, 0, none⟩)) ∧ g 9 = (.int .i64 xl3_t9) ∧ g 39 = (.bool xc4_t39) ∧ Own w' (Sl3_0 ++ (Sl3_1 ++ ((b4, .cells #[(.int .i64 4), (.int .i64 x1.Device), (.int .i64 x1.Request), (.int .i64 x1.Ticket), (.int .i64 x1.For), (.int .i64 x1.Until), (.int .i64 x1.Now)] 37 (0, 0)) :: ((b7, .cells #[(.int .i64 xl3_b7.Epoch), (.int .i64 xl3_b7.Owner), (.int .i64 xl3_b7.Next), (.slice al3_0 ml3_0 cl3_0), (.slice al3_1 ml3_1 cl3_1)] 27 (0, 0)) :: L)))) ∧ Ext w236 Lc w' (Sl3_0 ++ (Sl3_1 ++ ((b4, .cells #[(.int .i64 4), (.int .i64 x1.Device), (.int .i64 x1.Request), (.int .i64 x1.Ticket), (.int .i64 x1.For), (.int .i64 x1.Until), (.int .i64 x1.Now)] 37 (0, 0)) :: ((b7, .cells #[(.int .i64 xl3_b7.Epoch), (.int .i64 xl3_b7.Owner), (.int .i64 xl3_b7.Next), (.slice al3_0 ml3_0 cl3_0), (.slice al3_1 ml3_1 cl3_1)] 27 (0, 0)) :: L))))) ?_ ?_
    · skip
      refine c_reg ?_
      refine sv (r_move (v := .int _ _) rfl) ?_
      refine sv (r_move (v := .slice _ _ _) rfl) ?_
      refine sv (r_lenL (xs := x2) Try.underlying22 rfl hm2p) ?_
      refine c_lss rfl rfl (fun h39 => ?_) (fun h39 => ?_)
      · replace h := iT h39 h
        refine s_nil ?_
        refine c_next ?_
        rw [← Option.some.inj h] at hr237
        exact ⟨_, rfl, true, hr237, rfl, rfl, rfl, rfl, rfl, hO236, (Ext.refl _ _)⟩
      replace h := iF (Int.not_lt.2 h39) h
      refine s_nil ?_
      refine c_next ?_
      rw [← Option.some.inj h] at hr237
      exact ⟨_, rfl, false, hr237, rfl, rfl, rfl, rfl, rfl, hO236, (Ext.refl _ _)⟩
    intro gg237 w237 hI237
    clear h hr237
    obtain ⟨xc4_t39, h, hsc4_2, hsc4_4, hsc4_7, hsc4_9, hsc4_39, hO237, e237⟩ := hI237
    replace h := hG_ hG237 h; clear hG237
    obtain ⟨qq237, rfl⟩ := fr5 hsc4_2 hsc4_4 hsc4_7 hsc4_9 hsc4_39
    clear hsc4_2 hsc4_4 hsc4_7 hsc4_9 hsc4_39
    rcases Bool.eq_false_or_eq_true (xc4_t39) with hb238 | hb238
    · replace h := iT hb238 h
      refine c_condT (congrArg Value.bool hb238) ?_
      refine c_skip ?_
      refine c_next ?_
      refine c_seq ?_
      refine c_block ?_
      have hR0p := (hR0p.ext e237)
      have hR1p := (hR1p.ext e237)
      have hR2p := (hR2p.ext e237)
      obtain ⟨oc281, G281, hG281, h, hr281⟩ := bindG h
      refine c_cutL hO237 (fun Lc f0 g w' => ∃ (xc5_t11 : Int) (xc5_b7 : T_claim_State) (xc5_b10 : T_claim_State) (b10 : Nat) (ac5_0 : Option Addr) (mc5_0 cc5_0 : Nat) (ac5_1 : Option Addr) (mc5_1 cc5_1 : Nat) (ac5_2 : Option Addr) (mc5_2 cc5_2 : Nat) (Sc5_2 : Hp) (ac5_3 : Option Addr) (mc5_3 cc5_3 : Nat) (Sc5_3 : Hp), (G281 (xc5_t11, xc5_b7, xc5_b10) = some yl236) ∧ g 2 = (.slice aP2 mP2 cP2) ∧ g 4 = (.pointer (some ⟨b4, 0, none⟩)) ∧ g 7 = (.pointer (some ⟨b7, 0, none⟩)) ∧ g 9 = (.int .i64 xl3_t9) ∧ g 10 = (.pointer (some ⟨b10, 0, none⟩)) ∧ g 11 = (.int .i64 xc5_t11) ∧ xc5_b7.Roster.length = mc5_0 ∧ mc5_0 ≤ cc5_0 ∧ Rd w' (Sc5_2 ++ (Sc5_3 ++ ((b4, .cells #[(.int .i64 4), (.int .i64 x1.Device), (.int .i64 x1.Request), (.int .i64 x1.Ticket), (.int .i64 x1.For), (.int .i64 x1.Until), (.int .i64 x1.Now)] 37 (0, 0)) :: ((b7, .cells #[(.int .i64 xc5_b7.Epoch), (.int .i64 xc5_b7.Owner), (.int .i64 xc5_b7.Next), (.slice ac5_0 mc5_0 cc5_0), (.slice ac5_1 mc5_1 cc5_1)] 27 (0, 0)) :: ((b10, .cells #[(.int .i64 xc5_b10.Epoch), (.int .i64 xc5_b10.Owner), (.int .i64 xc5_b10.Next), (.slice ac5_2 mc5_2 cc5_2), (.slice ac5_3 mc5_3 cc5_3)] 27 (0, 0)) :: L))))) ac5_0 (fl e_roster_Device xc5_b7.Roster) ∧ xc5_b7.Tickets.length = mc5_1 ∧ mc5_1 ≤ cc5_1 ∧ Rd w' (Sc5_2 ++ (Sc5_3 ++ ((b4, .cells #[(.int .i64 4), (.int .i64 x1.Device), (.int .i64 x1.Request), (.int .i64 x1.Ticket), (.int .i64 x1.For), (.int .i64 x1.Until), (.int .i64 x1.Now)] 37 (0, 0)) :: ((b7, .cells #[(.int .i64 xc5_b7.Epoch), (.int .i64 xc5_b7.Owner), (.int .i64 xc5_b7.Next), (.slice ac5_0 mc5_0 cc5_0), (.slice ac5_1 mc5_1 cc5_1)] 27 (0, 0)) :: ((b10, .cells #[(.int .i64 xc5_b10.Epoch), (.int .i64 xc5_b10.Owner), (.int .i64 xc5_b10.Next), (.slice ac5_2 mc5_2 cc5_2), (.slice ac5_3 mc5_3 cc5_3)] 27 (0, 0)) :: L))))) ac5_1 (fl e_ticket_Ticket xc5_b7.Tickets) ∧ xc5_b10.Roster.length = mc5_2 ∧ OwnSl 56 4 ac5_2 mc5_2 cc5_2 (fl e_roster_Device xc5_b10.Roster) Sc5_2 ∧ xc5_b10.Tickets.length = mc5_3 ∧ OwnSl 59 3 ac5_3 mc5_3 cc5_3 (fl e_ticket_Ticket xc5_b10.Tickets) Sc5_3 ∧ Own w' (Sc5_2 ++ (Sc5_3 ++ ((b4, .cells #[(.int .i64 4), (.int .i64 x1.Device), (.int .i64 x1.Request), (.int .i64 x1.Ticket), (.int .i64 x1.For), (.int .i64 x1.Until), (.int .i64 x1.Now)] 37 (0, 0)) :: ((b7, .cells #[(.int .i64 xc5_b7.Epoch), (.int .i64 xc5_b7.Owner), (.int .i64 xc5_b7.Next), (.slice ac5_0 mc5_0 cc5_0), (.slice ac5_1 mc5_1 cc5_1)] 27 (0, 0)) :: ((b10, .cells #[(.int .i64 xc5_b10.Epoch), (.int .i64 xc5_b10.Owner), (.int .i64 xc5_b10.Next), (.slice ac5_2 mc5_2 cc5_2), (.slice ac5_3 mc5_3 cc5_3)] 27 (0, 0)) :: L))))) ∧ Ext w237 Lc w' (Sc5_2 ++ (Sc5_3 ++ ((b4, .cells #[(.int .i64 4), (.int .i64 x1.Device), (.int .i64 x1.Request), (.int .i64 x1.Ticket), (.int .i64 x1.For), (.int .i64 x1.Until), (.int .i64 x1.Now)] 37 (0, 0)) :: ((b7, .cells #[(.int .i64 xc5_b7.Epoch), (.int .i64 xc5_b7.Owner), (.int .i64 xc5_b7.Next), (.slice ac5_0 mc5_0 cc5_0), (.slice ac5_1 mc5_1 cc5_1)] 27 (0, 0)) :: ((b10, .cells #[(.int .i64 xc5_b10.Epoch), (.int .i64 xc5_b10.Owner), (.int .i64 xc5_b10.Next), (.slice ac5_2 mc5_2 cc5_2), (.slice ac5_3 mc5_3 cc5_3)] 27 (0, 0)) :: L)))))) ?_ ?_
      · skip
        refine d_startL hO237 hO237.r.r.t 11 (by kernel_rfl) (pk_then (pk_block (pk_then (pk_then (pk_block (pk_then pk_body)))))) ?_
        intro hP283 wd283 hK283 hO282 e282
        refine dT (i := 0) (listed' := #[I_,O_,O_,O_,O_,O_,O_,O_,O_,O_,O_,O_]) rfl hP283 hK283 (fun wS hS => (rl_all Try.underlying27 rfl I27 rfl (hS.own.get (i := 0) rfl) rfl rfl)) ?_
        refine dT (i := 1) (listed' := #[I_,I_,O_,O_,O_,O_,O_,O_,O_,O_,O_,O_]) rfl hP283 hK283 (fun wS hS => (r_move (v := .slice _ _ _) rfl)) ?_
        refine dT (i := 2) (listed' := #[I_,I_,I_,O_,O_,O_,O_,O_,O_,O_,O_,O_]) rfl hP283 hK283 (fun wS hS => (r_move (v := .int _ _) rfl)) ?_
        obtain ⟨y46, hy46, h⟩ := bindE h
        obtain ⟨ad46, had46, hk46⟩ := ix_known (e := e_claim_Op) (Rd.cs hR2p) e_claim_Op_len (by decide) hy46
        have hx46 : Value.slice aP2 mP2 cP2 = .slice (some ad46) mP2 cP2 := by rw [had46]
        refine dT (i := 3) (listed' := #[I_,I_,I_,I_,O_,O_,O_,O_,O_,O_,O_,O_]) rfl hP283 hK283 (fun wS hS => (ra_idx (xs := x2) (i := xl3_t9) Try.underlying22 I37 (by exact hx46) (by rfl) hm2p hy46)) ?_
        refine dT (i := 4) (listed' := #[I_,I_,I_,I_,I_,O_,O_,O_,O_,O_,O_,O_]) rfl hP283 hK283 (fun wS hS => (r_loadN (cs := [(.int .i64 y46.Kind), (.int .i64 y46.Device), (.int .i64 y46.Request), (.int .i64 y46.Ticket), (.int .i64 y46.For), (.int .i64 y46.Until), (.int .i64 y46.Now)]) Try.underlying37 rfl I37 rfl rfl (hk46 _ (hR2p.kept hS)))) ?_
        refine d_two (i := 5) (j := 9) (l1 := #[I_,I_,I_,I_,I_,I_,O_,O_,O_,O_,O_,O_]) (l2 := #[I_,I_,I_,I_,I_,O_,O_,O_,O_,I_,O_,O_]) (by rfl) (by rfl) (by kernel_rfl) (by rfl) (by rfl) ?_ ?_
        · skip
          have hR284 := (hSl3_0.drop hO282).2.2
          obtain ⟨hO284, e284⟩ := hO282.dropS
          have hR285 := (hSl3_1.drop hO284).2.2
          obtain ⟨hO285, e285⟩ := hO284.dropS
          obtain ⟨y48, hy48, h⟩ := bindE h
          refine s_call cf9 rfl (c_claim_Do xl3_b7 y46 al3_0 ml3_0 cl3_0 al3_1 ml3_1 cl3_1 _ hy48 _ _ hml3_0 hSl3_0.le.1 (hR284.ext e285) hml3_1 hSl3_1.le.1 hR285 hO285) ?_
          rintro er48 w286 ⟨a48_0, m48_0, c48_0, S48_0, a48_1, m48_1, c48_1, S48_1, rfl, hm48_0, hS48_0, hm48_1, hS48_1, hO286, e286⟩
          refine ⟨_, rfl, ?_⟩
          have hK287 : Kept w237 _ _ w286 := Kept.to (e282.trans (e284.trans (e285.trans e286))) hO286.r.r.t
          refine d_back hK287 ?_
          refine dT (i := 6) (listed' := #[I_,I_,I_,I_,I_,I_,I_,O_,O_,O_,O_,O_]) rfl hP283 hK287 (fun wS hS => (r_move (v := .tuple _) rfl)) ?_
          refine dT (i := 7) (listed' := #[I_,I_,I_,I_,I_,I_,I_,I_,O_,O_,O_,O_]) rfl hP283 hK287 (fun wS hS => (r_extract rfl rfl)) ?_
          refine dT (i := 8) (listed' := #[I_,I_,I_,I_,I_,I_,I_,I_,I_,O_,O_,O_]) rfl hP283 hK287 (fun wS hS => (r_extract rfl rfl)) ?_
          refine d1 (i := 9) (listed' := #[I_,I_,I_,I_,I_,I_,I_,I_,I_,I_,O_,O_]) ?_
          refine s_alloc I27 hO286 ?_
          intro b10 w288 hz10 hl10 hO288 e288
          have hO289 : Own w288 ((b10, .cells #[(.int .i64 0), (.int .i64 0), (.int .i64 0), (.slice none 0 0), (.slice none 0 0)] 27 (0, 0)) :: (S48_0 ++ (S48_1 ++ ((b4, .cells #[(.int .i64 4), (.int .i64 x1.Device), (.int .i64 x1.Request), (.int .i64 x1.Ticket), (.int .i64 x1.For), (.int .i64 x1.Until), (.int .i64 x1.Now)] 37 (0, 0)) :: ((b7, .cells #[(.int .i64 xl3_b7.Epoch), (.int .i64 xl3_b7.Owner), (.int .i64 xl3_b7.Next), (.slice al3_0 ml3_0 cl3_0), (.slice al3_1 ml3_1 cl3_1)] 27 (0, 0)) :: L))))) := hO288
          have hK291 : Kept w237 _ _ w288 := Kept.to (e282.trans (e284.trans (e285.trans (e286.trans e288)))) hO289.t.r.r.t
          refine d_back hK291 ?_
          refine d1 (i := 10) (listed' := #[I_,I_,I_,I_,I_,I_,I_,I_,I_,I_,I_,O_]) ?_
          refine s_storeN (vs := #[(.int .i64 y48.1.Epoch), (.int .i64 y48.1.Owner), (.int .i64 y48.1.Next), (.slice a48_0 m48_0 c48_0), (.slice a48_1 m48_1 c48_1)]) I27 rfl rfl rfl hO289 (i := 0) rfl (Nat.le_of_ble_eq_true rfl) (List.all_eq_true.1 rfl) ?_
          intro w292 hO292 e292
          have hO293 : Own w292 ((b10, .cells #[(.int .i64 y48.1.Epoch), (.int .i64 y48.1.Owner), (.int .i64 y48.1.Next), (.slice a48_0 m48_0 c48_0), (.slice a48_1 m48_1 c48_1)] 27 (0, 0)) :: (S48_0 ++ (S48_1 ++ ((b4, .cells #[(.int .i64 4), (.int .i64 x1.Device), (.int .i64 x1.Request), (.int .i64 x1.Ticket), (.int .i64 x1.For), (.int .i64 x1.Until), (.int .i64 x1.Now)] 37 (0, 0)) :: ((b7, .cells #[(.int .i64 xl3_b7.Epoch), (.int .i64 xl3_b7.Owner), (.int .i64 xl3_b7.Next), (.slice al3_0 ml3_0 cl3_0), (.slice al3_1 ml3_1 cl3_1)] 27 (0, 0)) :: L))))) := hO292
          have hK295 : Kept w237 _ _ w292 := Kept.to (e282.trans (e284.trans (e285.trans (e286.trans (e288.trans e292))))) hO293.t.r.r.t
          refine d_back hK295 ?_
          refine d1 (i := 11) (listed' := #[I_,I_,I_,I_,I_,I_,I_,I_,I_,I_,I_,I_]) ?_
          refine sv (r_assign (v := .int _ _) rfl) ?_
          refine d_tail rfl ?_
          refine d_done (by kernel_rfl) ?_
          refine c_next ?_
          rw [← Option.some.inj h] at hr281
          obtain ⟨hO296, e296⟩ := hO293.permE (pmbC (pmbA (pmbA (pmbC pmb0))))
          obtain ⟨hO297, e297⟩ := hO296.permE (pmbC (pmbC (pmbA (pmbA pmb0))))
          obtain ⟨hO298, e298⟩ := hO297.permE (pmC (pmC (pmC (pmA pm0))))
          obtain ⟨hO299, e299⟩ := hO298.permE (pmA (pmC (pmC (pmC pm0))))
          exact ⟨_, rfl, y48.2, xl3_b7, ({ Epoch := y48.1.Epoch, Owner := y48.1.Owner, Next := y48.1.Next, Roster := y48.1.Roster, Tickets := y48.1.Tickets } : T_claim_State), b10, al3_0, ml3_0, cl3_0, al3_1, ml3_1, cl3_1, a48_0, m48_0, c48_0, S48_0, a48_1, m48_1, c48_1, S48_1, hr281, rfl, rfl, rfl, rfl, rfl, rfl, hml3_0, hSl3_0.le.1, (hR284.ext (e285.trans (e286.trans (e288.trans (e292.trans (e296.trans (e297.trans (e298.trans e299)))))))), hml3_1, hSl3_1.le.1, (hR285.ext (e286.trans (e288.trans (e292.trans (e296.trans (e297.trans (e298.trans e299))))))), hm48_0, hS48_0, hm48_1, hS48_1, hO299, (e282.trans (e284.trans (e285.trans (e286.trans (e288.trans (e292.trans (e296.trans (e297.trans (e298.trans e299)))))))))⟩
        refine s_alloc I27 hO282 ?_
        intro b10 w300 hz10 hl10 hO300 e300
        have hO301 : Own w300 ((b10, .cells #[(.int .i64 0), (.int .i64 0), (.int .i64 0), (.slice none 0 0), (.slice none 0 0)] 27 (0, 0)) :: (Sl3_0 ++ (Sl3_1 ++ ((b4, .cells #[(.int .i64 4), (.int .i64 x1.Device), (.int .i64 x1.Request), (.int .i64 x1.Ticket), (.int .i64 x1.For), (.int .i64 x1.Until), (.int .i64 x1.Now)] 37 (0, 0)) :: ((b7, .cells #[(.int .i64 xl3_b7.Epoch), (.int .i64 xl3_b7.Owner), (.int .i64 xl3_b7.Next), (.slice al3_0 ml3_0 cl3_0), (.slice al3_1 ml3_1 cl3_1)] 27 (0, 0)) :: L))))) := hO300
        have hK303 : Kept w237 _ _ w300 := Kept.to (e282.trans e300) hO301.t.r.r.t
        refine d_back hK303 ?_
        refine d1 (i := 5) (listed' := #[I_,I_,I_,I_,I_,I_,O_,O_,O_,I_,O_,O_]) ?_
        obtain ⟨hO304, e304⟩ := hO301.permE (pmC pm0)
        have hR305 := (hSl3_0.drop hO304).2.2
        obtain ⟨hO305, e305⟩ := hO304.dropS
        obtain ⟨hO306, e306⟩ := hO305.permE (pmC pm0)
        have hR307 := (hSl3_1.drop hO306).2.2
        obtain ⟨hO307, e307⟩ := hO306.dropS
        obtain ⟨y48, hy48, h⟩ := bindE h
        refine s_call cf9 rfl (c_claim_Do xl3_b7 y46 al3_0 ml3_0 cl3_0 al3_1 ml3_1 cl3_1 _ hy48 _ _ hml3_0 hSl3_0.le.1 (hR305.ext (e306.trans e307)) hml3_1 hSl3_1.le.1 hR307 hO307) ?_
        rintro er48 w308 ⟨a48_0, m48_0, c48_0, S48_0, a48_1, m48_1, c48_1, S48_1, rfl, hm48_0, hS48_0, hm48_1, hS48_1, hO308, e308⟩
        refine ⟨_, rfl, ?_⟩
        have hK309 : Kept w237 _ _ w308 := Kept.to (e282.trans (e300.trans (e304.trans (e305.trans (e306.trans (e307.trans e308)))))) hO308.r.r.t.t
        refine d_back hK309 ?_
        refine dT (i := 6) (listed' := #[I_,I_,I_,I_,I_,I_,I_,O_,O_,I_,O_,O_]) rfl hP283 hK309 (fun wS hS => (r_move (v := .tuple _) rfl)) ?_
        refine dT (i := 7) (listed' := #[I_,I_,I_,I_,I_,I_,I_,I_,O_,I_,O_,O_]) rfl hP283 hK309 (fun wS hS => (r_extract rfl rfl)) ?_
        refine dT (i := 8) (listed' := #[I_,I_,I_,I_,I_,I_,I_,I_,I_,I_,O_,O_]) rfl hP283 hK309 (fun wS hS => (r_extract rfl rfl)) ?_
        refine d1 (i := 10) (listed' := #[I_,I_,I_,I_,I_,I_,I_,I_,I_,I_,I_,O_]) ?_
        obtain ⟨hO311, e311⟩ := hO308.permE (pmbA (pmbA pmb0))
        refine s_storeN (vs := #[(.int .i64 y48.1.Epoch), (.int .i64 y48.1.Owner), (.int .i64 y48.1.Next), (.slice a48_0 m48_0 c48_0), (.slice a48_1 m48_1 c48_1)]) I27 rfl rfl rfl hO311 (i := 0) rfl (Nat.le_of_ble_eq_true rfl) (List.all_eq_true.1 rfl) ?_
        intro w310 hO310 e310
        have hO312 : Own w310 ((b10, .cells #[(.int .i64 y48.1.Epoch), (.int .i64 y48.1.Owner), (.int .i64 y48.1.Next), (.slice a48_0 m48_0 c48_0), (.slice a48_1 m48_1 c48_1)] 27 (0, 0)) :: (S48_0 ++ (S48_1 ++ ((b4, .cells #[(.int .i64 4), (.int .i64 x1.Device), (.int .i64 x1.Request), (.int .i64 x1.Ticket), (.int .i64 x1.For), (.int .i64 x1.Until), (.int .i64 x1.Now)] 37 (0, 0)) :: ((b7, .cells #[(.int .i64 xl3_b7.Epoch), (.int .i64 xl3_b7.Owner), (.int .i64 xl3_b7.Next), (.slice al3_0 ml3_0 cl3_0), (.slice al3_1 ml3_1 cl3_1)] 27 (0, 0)) :: L))))) := hO310
        have hK314 : Kept w237 _ _ w310 := Kept.to (e282.trans (e300.trans (e304.trans (e305.trans (e306.trans (e307.trans (e308.trans (e311.trans e310)))))))) hO312.t.r.r.t
        refine d_back hK314 ?_
        refine d1 (i := 11) (listed' := #[I_,I_,I_,I_,I_,I_,I_,I_,I_,I_,I_,I_]) ?_
        refine sv (r_assign (v := .int _ _) rfl) ?_
        refine d_tail rfl ?_
        refine d_done (by kernel_rfl) ?_
        refine c_next ?_
        rw [← Option.some.inj h] at hr281
        obtain ⟨hO315, e315⟩ := hO312.permE (pmbC (pmbA (pmbA (pmbC pmb0))))
        obtain ⟨hO316, e316⟩ := hO315.permE (pmbC (pmbC (pmbA (pmbA pmb0))))
        obtain ⟨hO317, e317⟩ := hO316.permE (pmC (pmC (pmC (pmA pm0))))
        obtain ⟨hO318, e318⟩ := hO317.permE (pmA (pmC (pmC (pmC pm0))))
        exact ⟨_, rfl, y48.2, xl3_b7, ({ Epoch := y48.1.Epoch, Owner := y48.1.Owner, Next := y48.1.Next, Roster := y48.1.Roster, Tickets := y48.1.Tickets } : T_claim_State), b10, al3_0, ml3_0, cl3_0, al3_1, ml3_1, cl3_1, a48_0, m48_0, c48_0, S48_0, a48_1, m48_1, c48_1, S48_1, hr281, rfl, rfl, rfl, rfl, rfl, rfl, hml3_0, hSl3_0.le.1, (hR305.ext (e306.trans (e307.trans (e308.trans (e311.trans (e310.trans (e315.trans (e316.trans (e317.trans e318))))))))), hml3_1, hSl3_1.le.1, (hR307.ext (e308.trans (e311.trans (e310.trans (e315.trans (e316.trans (e317.trans e318))))))), hm48_0, hS48_0, hm48_1, hS48_1, hO318, (e282.trans (e300.trans (e304.trans (e305.trans (e306.trans (e307.trans (e308.trans (e311.trans (e310.trans (e315.trans (e316.trans (e317.trans e318))))))))))))⟩
      intro gg281 w281 hI281
      clear h hr281
      obtain ⟨xc5_t11, xc5_b7, xc5_b10, b10, ac5_0, mc5_0, cc5_0, ac5_1, mc5_1, cc5_1, ac5_2, mc5_2, cc5_2, Sc5_2, ac5_3, mc5_3, cc5_3, Sc5_3, h, hsc5_2, hsc5_4, hsc5_7, hsc5_9, hsc5_10, hsc5_11, hmc5_0, hcc5_0, hRc5_0, hmc5_1, hcc5_1, hRc5_1, hmc5_2, hSc5_2, hmc5_3, hSc5_3, hO281, e281⟩ := hI281
      replace h := hG_ hG281 h; clear hG281
      obtain ⟨qq281, rfl⟩ := fr6 hsc5_2 hsc5_4 hsc5_7 hsc5_9 hsc5_10 hsc5_11
      clear hsc5_2 hsc5_4 hsc5_7 hsc5_9 hsc5_10 hsc5_11
      refine c_seq ?_
      refine c_seq ?_
      have hR0p := (hR0p.ext e281)
      have hR1p := (hR1p.ext e281)
      have hR2p := (hR2p.ext e281)
      refine d_startL hO281 ((hO281.r.r.perm (pmbC pmb0)).t.perm (pmbC pmb0)).t 20 (by kernel_rfl) (pk_then (pk_then (pk_block (pk_then (pk_then (pk_block (pk_then pk_body))))))) ?_
      intro hP324 wd324 hK324 hO323 e323
      refine dT (i := 0) (listed' := #[I_,O_,O_,O_,O_,O_,O_,O_,O_,O_,O_,O_,O_,O_,O_,O_,O_,O_,O_,O_]) rfl hP324 hK324 (fun wS hS => (r_move (v := .int _ _) rfl)) ?_
      refine dt_eql (i := 1) (listed' := #[I_,I_,O_,O_,O_,O_,O_,O_,O_,O_,O_,O_,O_,O_,O_,O_,O_,O_,O_,O_]) (by rfl) (by kernel_rfl) (by rfl) hP324.u rfl hK324 rfl rfl (fun h52 => ?_) (fun h52 => ?_)
      · replace h := iT h52 h
        refine dT (i := 2) (listed' := #[I_,I_,I_,O_,O_,O_,O_,O_,O_,O_,O_,O_,O_,O_,O_,O_,O_,O_,O_,O_]) rfl hP324 hK324 (fun wS hS => (r_move (v := .bool true) rfl)) ?_
        refine dG (i := 3) (listed' := #[I_,I_,I_,I_,O_,O_,O_,O_,O_,O_,O_,O_,O_,O_,O_,O_,O_,O_,O_,O_]) rfl 53 hP324 rfl hK324 (fun wS hS => (r_move (v := .slice _ _ _) rfl)) ?_
        refine dG (i := 4) (listed' := #[I_,I_,I_,I_,I_,O_,O_,O_,O_,O_,O_,O_,O_,O_,O_,O_,O_,O_,O_,O_]) rfl 53 hP324 rfl hK324 (fun wS hS => (r_move (v := .int _ _) rfl)) ?_
        obtain ⟨y56, hy56, h⟩ := bindE h
        obtain ⟨ad56, had56, hk56⟩ := ix_known (e := e_claim_Op) (Rd.cs hR2p) e_claim_Op_len (by decide) hy56
        have hx56 : Value.slice aP2 mP2 cP2 = .slice (some ad56) mP2 cP2 := by rw [had56]
        refine dG (i := 5) (listed' := #[I_,I_,I_,I_,I_,I_,O_,O_,O_,O_,O_,O_,O_,O_,O_,O_,O_,O_,O_,O_]) rfl 53 hP324 rfl hK324 (fun wS hS => (ra_idx (xs := x2) (i := xl3_t9) Try.underlying22 I37 (by exact hx56) (by rfl) hm2p hy56)) ?_
        refine dG (i := 6) (listed' := #[I_,I_,I_,I_,I_,I_,I_,O_,O_,O_,O_,O_,O_,O_,O_,O_,O_,O_,O_,O_]) rfl 53 hP324 rfl hK324 (fun wS hS => (r_fieldAddr Try.underlying37 rfl I3 (by decide) rfl)) ?_
        refine dG (i := 7) (listed' := #[I_,I_,I_,I_,I_,I_,I_,I_,O_,O_,O_,O_,O_,O_,O_,O_,O_,O_,O_,O_]) rfl 53 hP324 rfl hK324 (fun wS hS => (r_load1 (v := .int _ _) Try.underlying3 rfl rfl (cellP (hk56 _ (hR2p.kept hS)) 0 rfl))) ?_
        refine dt_eqlG (i := 8) (listed' := #[I_,I_,I_,I_,I_,I_,I_,I_,I_,O_,O_,O_,O_,O_,O_,O_,O_,O_,O_,O_]) (by rfl) (by kernel_rfl) (by rfl) hP324.u 53 (by rfl) rfl hK324 rfl rfl (fun h59 => ?_) (fun h59 => ?_)
        · replace h := iT h59 h
          refine dT (i := 9) (listed' := #[I_,I_,I_,I_,I_,I_,I_,I_,I_,I_,O_,O_,O_,O_,O_,O_,O_,O_,O_,O_]) rfl hP324 hK324 (fun wS hS => (r_pickT (v := .bool true) rfl rfl)) ?_
          refine dT (i := 10) (listed' := #[I_,I_,I_,I_,I_,I_,I_,I_,I_,I_,I_,O_,O_,O_,O_,O_,O_,O_,O_,O_]) rfl hP324 hK324 (fun wS hS => (r_move (v := .bool true) rfl)) ?_
          refine dG (i := 11) (listed' := #[I_,I_,I_,I_,I_,I_,I_,I_,I_,I_,I_,I_,O_,O_,O_,O_,O_,O_,O_,O_]) rfl 61 hP324 rfl hK324 (fun wS hS => (r_move (v := .slice _ _ _) rfl)) ?_
          refine dG (i := 12) (listed' := #[I_,I_,I_,I_,I_,I_,I_,I_,I_,I_,I_,I_,I_,O_,O_,O_,O_,O_,O_,O_]) rfl 61 hP324 rfl hK324 (fun wS hS => (r_move (v := .int _ _) rfl)) ?_
          obtain ⟨y64, hy64, h⟩ := bindE h
          obtain ⟨ad64, had64, hk64⟩ := ix_known (e := e_claim_Op) (Rd.cs hR2p) e_claim_Op_len (by decide) hy64
          have hx64 : Value.slice aP2 mP2 cP2 = .slice (some ad64) mP2 cP2 := by rw [had64]
          refine dG (i := 13) (listed' := #[I_,I_,I_,I_,I_,I_,I_,I_,I_,I_,I_,I_,I_,I_,O_,O_,O_,O_,O_,O_]) rfl 61 hP324 rfl hK324 (fun wS hS => (ra_idx (xs := x2) (i := xl3_t9) Try.underlying22 I37 (by exact hx64) (by rfl) hm2p hy64)) ?_
          refine dG (i := 14) (listed' := #[I_,I_,I_,I_,I_,I_,I_,I_,I_,I_,I_,I_,I_,I_,I_,O_,O_,O_,O_,O_]) rfl 61 hP324 rfl hK324 (fun wS hS => (r_fieldAddr Try.underlying37 rfl I3 (by decide) rfl)) ?_
          refine dG (i := 15) (listed' := #[I_,I_,I_,I_,I_,I_,I_,I_,I_,I_,I_,I_,I_,I_,I_,I_,O_,O_,O_,O_]) rfl 61 hP324 rfl hK324 (fun wS hS => (r_load1 (v := .int _ _) Try.underlying3 rfl rfl (cellP (hk64 _ (hR2p.kept hS)) 3 rfl))) ?_
          refine dG (i := 16) (listed' := #[I_,I_,I_,I_,I_,I_,I_,I_,I_,I_,I_,I_,I_,I_,I_,I_,I_,O_,O_,O_]) rfl 61 hP324 rfl hK324 (fun wS hS => (r_fieldAddr Try.underlying37 rfl I3 (by decide) rfl)) ?_
          refine dG (i := 17) (listed' := #[I_,I_,I_,I_,I_,I_,I_,I_,I_,I_,I_,I_,I_,I_,I_,I_,I_,I_,O_,O_]) rfl 61 hP324 rfl hK324 (fun wS hS => (r_load1 (v := .int _ _) Try.underlying3 rfl rfl (cellB (hS.own.get (i := 0) rfl) rfl rfl))) ?_
          refine dt_eqlG (i := 18) (listed' := #[I_,I_,I_,I_,I_,I_,I_,I_,I_,I_,I_,I_,I_,I_,I_,I_,I_,I_,I_,O_]) (by rfl) (by kernel_rfl) (by rfl) hP324.u 61 (by rfl) rfl hK324 rfl rfl (fun h69 => ?_) (fun h69 => ?_)
          · replace h := iT h69 h
            refine dT (i := 19) (listed' := #[I_,I_,I_,I_,I_,I_,I_,I_,I_,I_,I_,I_,I_,I_,I_,I_,I_,I_,I_,I_]) rfl hP324 hK324 (fun wS hS => (r_pickT (v := .bool true) rfl rfl)) ?_
            refine d_done (by kernel_rfl) ?_
            refine c_next ?_
            refine c_condT rfl ?_
            refine c_seq ?_
            refine c_reg ?_
            refine sv (r_assign (v := .bool false) rfl) ?_
            refine s_nil ?_
            refine c_next ?_
            refine c_ret ?_
            refine r_then ?_
            refine r_block ?_
            refine r_then ?_
            refine r_then ?_
            refine r_block ?_
            refine r_then ?_
            replace h := crossE h hyl236
            refine e_1 (v := .bool false) Try.results4 rfl ?_
            have hR325 := (hSc5_2.drop hO323).2.2
            obtain ⟨hO325, e325⟩ := hO323.dropS
            have hR326 := (hSc5_3.drop hO325).2.2
            obtain ⟨hO326, e326⟩ := hO325.dropS
            obtain ⟨hO327, e327⟩ := hO326.drop1
            obtain ⟨hO328, e328⟩ := hO327.drop1
            obtain ⟨hO329, e329⟩ := hO328.drop1
            rw [← Option.some.inj h]
            exact ⟨rfl, hO329, (e3.trans (e6.trans (e12.trans (e26.trans (e39.trans (e45.trans (e46.trans (e49.trans (e52.trans (e236.trans (e237.trans (e281.trans (e323.trans (e325.trans (e326.trans (e327.trans (e328.trans e329)))))))))))))))))⟩
          replace h := iF h69 h
          refine dT (i := 19) (listed' := #[I_,I_,I_,I_,I_,I_,I_,I_,I_,I_,I_,I_,I_,I_,I_,I_,I_,I_,I_,I_]) rfl hP324 hK324 (fun wS hS => (r_pickT (v := .bool false) rfl rfl)) ?_
          refine d_done (by kernel_rfl) ?_
          refine c_next ?_
          refine c_condF rfl ?_
          refine c_skip ?_
          refine c_next ?_
          refine c_reg ?_
          refine s_loadAll Try.underlying27 rfl I27 rfl ((hO323.perm (pmbA (pmbA (pmbC (pmbC pmb0))))).get (i := 0) rfl) rfl rfl ?_
          obtain ⟨hO331, e331⟩ := hO323.permE (pmbA (pmbA (pmbC pmb0)))
          refine s_storeN (vs := #[(.int .i64 xc5_b10.Epoch), (.int .i64 xc5_b10.Owner), (.int .i64 xc5_b10.Next), (.slice ac5_2 mc5_2 cc5_2), (.slice ac5_3 mc5_3 cc5_3)]) I27 rfl rfl rfl hO331 (i := 0) rfl (Nat.le_of_ble_eq_true rfl) (List.all_eq_true.1 rfl) ?_
          intro w330 hO330 e330
          have hO332 : Own w330 ((b7, .cells #[(.int .i64 xc5_b10.Epoch), (.int .i64 xc5_b10.Owner), (.int .i64 xc5_b10.Next), (.slice ac5_2 mc5_2 cc5_2), (.slice ac5_3 mc5_3 cc5_3)] 27 (0, 0)) :: (Sc5_2 ++ (Sc5_3 ++ ((b4, .cells #[(.int .i64 4), (.int .i64 x1.Device), (.int .i64 x1.Request), (.int .i64 x1.Ticket), (.int .i64 x1.For), (.int .i64 x1.Until), (.int .i64 x1.Now)] 37 (0, 0)) :: ((b10, .cells #[(.int .i64 xc5_b10.Epoch), (.int .i64 xc5_b10.Owner), (.int .i64 xc5_b10.Next), (.slice ac5_2 mc5_2 cc5_2), (.slice ac5_3 mc5_3 cc5_3)] 27 (0, 0)) :: L))))) := hO330
          refine s_nil ?_
          refine x_norm ?_
          refine c_next ?_
          refine c_reg ?_
          refine sv (r_move (v := .int _ _) rfl) ?_
          refine sv (r_addI (a := xl3_t9) (b := 1) rfl rfl) ?_
          refine sv (r_assign (v := .int _ _) rfl) ?_
          refine s_nil ?_
          refine l_end (m' := kl236) (Nat.lt_succ_self _) ?_
          rw [← Option.some.inj h] at hyl236
          obtain ⟨hO334, e334⟩ := hO332.permE (pmbC (pmbA (pmbA (pmbC pmb0))))
          obtain ⟨hO335, e335⟩ := hO334.drop1
          obtain ⟨hO336, e336⟩ := hO335.permE (pmbC (pmbA (pmbA pmb0)))
          obtain ⟨hO337, e337⟩ := hO336.permE (pmC (pmC (pmA pm0)))
          obtain ⟨hO338, e338⟩ := hO337.permE (pmA (pmC (pmC pm0)))
          exact ⟨(w64 (xl3_t9 + 1)), xc5_b10, ac5_2, mc5_2, cc5_2, Sc5_2, ac5_3, mc5_3, cc5_3, Sc5_3, hyl236, rfl, rfl, rfl, rfl, hmc5_2, hSc5_2, hmc5_3, hSc5_3, hO338, (e236.trans (e237.trans (e281.trans (e323.trans (e331.trans (e330.trans (e334.trans (e335.trans (e336.trans (e337.trans e338))))))))))⟩
        replace h := iF h59 h
        refine dT (i := 9) (listed' := #[I_,I_,I_,I_,I_,I_,I_,I_,I_,I_,O_,O_,O_,O_,O_,O_,O_,O_,O_,O_]) rfl hP324 hK324 (fun wS hS => (r_pickT (v := .bool false) rfl rfl)) ?_
        refine dT (i := 10) (listed' := #[I_,I_,I_,I_,I_,I_,I_,I_,I_,I_,I_,O_,O_,O_,O_,O_,O_,O_,O_,O_]) rfl hP324 hK324 (fun wS hS => (r_move (v := .bool false) rfl)) ?_
        refine dS (i := 11) (listed' := #[I_,I_,I_,I_,I_,I_,I_,I_,I_,I_,I_,I_,O_,O_,O_,O_,O_,O_,O_,O_]) rfl 61 hP324 rfl hK324 ?_
        refine dS (i := 12) (listed' := #[I_,I_,I_,I_,I_,I_,I_,I_,I_,I_,I_,I_,I_,O_,O_,O_,O_,O_,O_,O_]) rfl 61 hP324 rfl hK324 ?_
        refine dS (i := 13) (listed' := #[I_,I_,I_,I_,I_,I_,I_,I_,I_,I_,I_,I_,I_,I_,O_,O_,O_,O_,O_,O_]) rfl 61 hP324 rfl hK324 ?_
        refine dS (i := 14) (listed' := #[I_,I_,I_,I_,I_,I_,I_,I_,I_,I_,I_,I_,I_,I_,I_,O_,O_,O_,O_,O_]) rfl 61 hP324 rfl hK324 ?_
        refine dS (i := 15) (listed' := #[I_,I_,I_,I_,I_,I_,I_,I_,I_,I_,I_,I_,I_,I_,I_,I_,O_,O_,O_,O_]) rfl 61 hP324 rfl hK324 ?_
        refine dS (i := 16) (listed' := #[I_,I_,I_,I_,I_,I_,I_,I_,I_,I_,I_,I_,I_,I_,I_,I_,I_,O_,O_,O_]) rfl 61 hP324 rfl hK324 ?_
        refine dS (i := 17) (listed' := #[I_,I_,I_,I_,I_,I_,I_,I_,I_,I_,I_,I_,I_,I_,I_,I_,I_,I_,O_,O_]) rfl 61 hP324 rfl hK324 ?_
        refine dS (i := 18) (listed' := #[I_,I_,I_,I_,I_,I_,I_,I_,I_,I_,I_,I_,I_,I_,I_,I_,I_,I_,I_,O_]) rfl 61 hP324 rfl hK324 ?_
        refine dT (i := 19) (listed' := #[I_,I_,I_,I_,I_,I_,I_,I_,I_,I_,I_,I_,I_,I_,I_,I_,I_,I_,I_,I_]) rfl hP324 hK324 (fun wS hS => (r_pickF (v := .bool false) rfl rfl)) ?_
        refine d_done (by kernel_rfl) ?_
        refine c_next ?_
        refine c_condF rfl ?_
        refine c_skip ?_
        refine c_next ?_
        refine c_reg ?_
        refine s_loadAll Try.underlying27 rfl I27 rfl ((hO323.perm (pmbA (pmbA (pmbC (pmbC pmb0))))).get (i := 0) rfl) rfl rfl ?_
        obtain ⟨hO340, e340⟩ := hO323.permE (pmbA (pmbA (pmbC pmb0)))
        refine s_storeN (vs := #[(.int .i64 xc5_b10.Epoch), (.int .i64 xc5_b10.Owner), (.int .i64 xc5_b10.Next), (.slice ac5_2 mc5_2 cc5_2), (.slice ac5_3 mc5_3 cc5_3)]) I27 rfl rfl rfl hO340 (i := 0) rfl (Nat.le_of_ble_eq_true rfl) (List.all_eq_true.1 rfl) ?_
        intro w339 hO339 e339
        have hO341 : Own w339 ((b7, .cells #[(.int .i64 xc5_b10.Epoch), (.int .i64 xc5_b10.Owner), (.int .i64 xc5_b10.Next), (.slice ac5_2 mc5_2 cc5_2), (.slice ac5_3 mc5_3 cc5_3)] 27 (0, 0)) :: (Sc5_2 ++ (Sc5_3 ++ ((b4, .cells #[(.int .i64 4), (.int .i64 x1.Device), (.int .i64 x1.Request), (.int .i64 x1.Ticket), (.int .i64 x1.For), (.int .i64 x1.Until), (.int .i64 x1.Now)] 37 (0, 0)) :: ((b10, .cells #[(.int .i64 xc5_b10.Epoch), (.int .i64 xc5_b10.Owner), (.int .i64 xc5_b10.Next), (.slice ac5_2 mc5_2 cc5_2), (.slice ac5_3 mc5_3 cc5_3)] 27 (0, 0)) :: L))))) := hO339
        refine s_nil ?_
        refine x_norm ?_
        refine c_next ?_
        refine c_reg ?_
        refine sv (r_move (v := .int _ _) rfl) ?_
        refine sv (r_addI (a := xl3_t9) (b := 1) rfl rfl) ?_
        refine sv (r_assign (v := .int _ _) rfl) ?_
        refine s_nil ?_
        refine l_end (m' := kl236) (Nat.lt_succ_self _) ?_
        rw [← Option.some.inj h] at hyl236
        obtain ⟨hO343, e343⟩ := hO341.permE (pmbC (pmbA (pmbA (pmbC pmb0))))
        obtain ⟨hO344, e344⟩ := hO343.drop1
        obtain ⟨hO345, e345⟩ := hO344.permE (pmbC (pmbA (pmbA pmb0)))
        obtain ⟨hO346, e346⟩ := hO345.permE (pmC (pmC (pmA pm0)))
        obtain ⟨hO347, e347⟩ := hO346.permE (pmA (pmC (pmC pm0)))
        exact ⟨(w64 (xl3_t9 + 1)), xc5_b10, ac5_2, mc5_2, cc5_2, Sc5_2, ac5_3, mc5_3, cc5_3, Sc5_3, hyl236, rfl, rfl, rfl, rfl, hmc5_2, hSc5_2, hmc5_3, hSc5_3, hO347, (e236.trans (e237.trans (e281.trans (e323.trans (e340.trans (e339.trans (e343.trans (e344.trans (e345.trans (e346.trans e347))))))))))⟩
      replace h := iF h52 h
      refine dT (i := 2) (listed' := #[I_,I_,I_,O_,O_,O_,O_,O_,O_,O_,O_,O_,O_,O_,O_,O_,O_,O_,O_,O_]) rfl hP324 hK324 (fun wS hS => (r_move (v := .bool false) rfl)) ?_
      refine dS (i := 3) (listed' := #[I_,I_,I_,I_,O_,O_,O_,O_,O_,O_,O_,O_,O_,O_,O_,O_,O_,O_,O_,O_]) rfl 53 hP324 rfl hK324 ?_
      refine dS (i := 4) (listed' := #[I_,I_,I_,I_,I_,O_,O_,O_,O_,O_,O_,O_,O_,O_,O_,O_,O_,O_,O_,O_]) rfl 53 hP324 rfl hK324 ?_
      refine dS (i := 5) (listed' := #[I_,I_,I_,I_,I_,I_,O_,O_,O_,O_,O_,O_,O_,O_,O_,O_,O_,O_,O_,O_]) rfl 53 hP324 rfl hK324 ?_
      refine dS (i := 6) (listed' := #[I_,I_,I_,I_,I_,I_,I_,O_,O_,O_,O_,O_,O_,O_,O_,O_,O_,O_,O_,O_]) rfl 53 hP324 rfl hK324 ?_
      refine dS (i := 7) (listed' := #[I_,I_,I_,I_,I_,I_,I_,I_,O_,O_,O_,O_,O_,O_,O_,O_,O_,O_,O_,O_]) rfl 53 hP324 rfl hK324 ?_
      refine dS (i := 8) (listed' := #[I_,I_,I_,I_,I_,I_,I_,I_,I_,O_,O_,O_,O_,O_,O_,O_,O_,O_,O_,O_]) rfl 53 hP324 rfl hK324 ?_
      refine dT (i := 9) (listed' := #[I_,I_,I_,I_,I_,I_,I_,I_,I_,I_,O_,O_,O_,O_,O_,O_,O_,O_,O_,O_]) rfl hP324 hK324 (fun wS hS => (r_pickF (v := .bool false) rfl rfl)) ?_
      refine dT (i := 10) (listed' := #[I_,I_,I_,I_,I_,I_,I_,I_,I_,I_,I_,O_,O_,O_,O_,O_,O_,O_,O_,O_]) rfl hP324 hK324 (fun wS hS => (r_move (v := .bool false) rfl)) ?_
      refine dS (i := 11) (listed' := #[I_,I_,I_,I_,I_,I_,I_,I_,I_,I_,I_,I_,O_,O_,O_,O_,O_,O_,O_,O_]) rfl 61 hP324 rfl hK324 ?_
      refine dS (i := 12) (listed' := #[I_,I_,I_,I_,I_,I_,I_,I_,I_,I_,I_,I_,I_,O_,O_,O_,O_,O_,O_,O_]) rfl 61 hP324 rfl hK324 ?_
      refine dS (i := 13) (listed' := #[I_,I_,I_,I_,I_,I_,I_,I_,I_,I_,I_,I_,I_,I_,O_,O_,O_,O_,O_,O_]) rfl 61 hP324 rfl hK324 ?_
      refine dS (i := 14) (listed' := #[I_,I_,I_,I_,I_,I_,I_,I_,I_,I_,I_,I_,I_,I_,I_,O_,O_,O_,O_,O_]) rfl 61 hP324 rfl hK324 ?_
      refine dS (i := 15) (listed' := #[I_,I_,I_,I_,I_,I_,I_,I_,I_,I_,I_,I_,I_,I_,I_,I_,O_,O_,O_,O_]) rfl 61 hP324 rfl hK324 ?_
      refine dS (i := 16) (listed' := #[I_,I_,I_,I_,I_,I_,I_,I_,I_,I_,I_,I_,I_,I_,I_,I_,I_,O_,O_,O_]) rfl 61 hP324 rfl hK324 ?_
      refine dS (i := 17) (listed' := #[I_,I_,I_,I_,I_,I_,I_,I_,I_,I_,I_,I_,I_,I_,I_,I_,I_,I_,O_,O_]) rfl 61 hP324 rfl hK324 ?_
      refine dS (i := 18) (listed' := #[I_,I_,I_,I_,I_,I_,I_,I_,I_,I_,I_,I_,I_,I_,I_,I_,I_,I_,I_,O_]) rfl 61 hP324 rfl hK324 ?_
      refine dT (i := 19) (listed' := #[I_,I_,I_,I_,I_,I_,I_,I_,I_,I_,I_,I_,I_,I_,I_,I_,I_,I_,I_,I_]) rfl hP324 hK324 (fun wS hS => (r_pickF (v := .bool false) rfl rfl)) ?_
      refine d_done (by kernel_rfl) ?_
      refine c_next ?_
      refine c_condF rfl ?_
      refine c_skip ?_
      refine c_next ?_
      refine c_reg ?_
      refine s_loadAll Try.underlying27 rfl I27 rfl ((hO323.perm (pmbA (pmbA (pmbC (pmbC pmb0))))).get (i := 0) rfl) rfl rfl ?_
      obtain ⟨hO349, e349⟩ := hO323.permE (pmbA (pmbA (pmbC pmb0)))
      refine s_storeN (vs := #[(.int .i64 xc5_b10.Epoch), (.int .i64 xc5_b10.Owner), (.int .i64 xc5_b10.Next), (.slice ac5_2 mc5_2 cc5_2), (.slice ac5_3 mc5_3 cc5_3)]) I27 rfl rfl rfl hO349 (i := 0) rfl (Nat.le_of_ble_eq_true rfl) (List.all_eq_true.1 rfl) ?_
      intro w348 hO348 e348
      have hO350 : Own w348 ((b7, .cells #[(.int .i64 xc5_b10.Epoch), (.int .i64 xc5_b10.Owner), (.int .i64 xc5_b10.Next), (.slice ac5_2 mc5_2 cc5_2), (.slice ac5_3 mc5_3 cc5_3)] 27 (0, 0)) :: (Sc5_2 ++ (Sc5_3 ++ ((b4, .cells #[(.int .i64 4), (.int .i64 x1.Device), (.int .i64 x1.Request), (.int .i64 x1.Ticket), (.int .i64 x1.For), (.int .i64 x1.Until), (.int .i64 x1.Now)] 37 (0, 0)) :: ((b10, .cells #[(.int .i64 xc5_b10.Epoch), (.int .i64 xc5_b10.Owner), (.int .i64 xc5_b10.Next), (.slice ac5_2 mc5_2 cc5_2), (.slice ac5_3 mc5_3 cc5_3)] 27 (0, 0)) :: L))))) := hO348
      refine s_nil ?_
      refine x_norm ?_
      refine c_next ?_
      refine c_reg ?_
      refine sv (r_move (v := .int _ _) rfl) ?_
      refine sv (r_addI (a := xl3_t9) (b := 1) rfl rfl) ?_
      refine sv (r_assign (v := .int _ _) rfl) ?_
      refine s_nil ?_
      refine l_end (m' := kl236) (Nat.lt_succ_self _) ?_
      rw [← Option.some.inj h] at hyl236
      obtain ⟨hO352, e352⟩ := hO350.permE (pmbC (pmbA (pmbA (pmbC pmb0))))
      obtain ⟨hO353, e353⟩ := hO352.drop1
      obtain ⟨hO354, e354⟩ := hO353.permE (pmbC (pmbA (pmbA pmb0)))
      obtain ⟨hO355, e355⟩ := hO354.permE (pmC (pmC (pmA pm0)))
      obtain ⟨hO356, e356⟩ := hO355.permE (pmA (pmC (pmC pm0)))
      exact ⟨(w64 (xl3_t9 + 1)), xc5_b10, ac5_2, mc5_2, cc5_2, Sc5_2, ac5_3, mc5_3, cc5_3, Sc5_3, hyl236, rfl, rfl, rfl, rfl, hmc5_2, hSc5_2, hmc5_3, hSc5_3, hO356, (e236.trans (e237.trans (e281.trans (e323.trans (e349.trans (e348.trans (e352.trans (e353.trans (e354.trans (e355.trans e356))))))))))⟩
    replace h := iF (nt hb238) h
    refine c_condF (congrArg Value.bool hb238) ?_
    refine c_exit ?_
    refine x_then ?_
    refine x_then ?_
    refine x_same ?_
    replace h := crossE h hyl236
    refine c_next ?_
    refine c_seq ?_
    refine c_reg ?_
    refine sv (r_assign (v := .bool true) rfl) ?_
    refine s_nil ?_
    refine c_next ?_
    refine c_ret ?_
    refine e_1 (v := .bool true) Try.results4 rfl ?_
    have hR357 := (hSl3_0.drop hO237).2.2
    obtain ⟨hO357, e357⟩ := hO237.dropS
    have hR358 := (hSl3_1.drop hO357).2.2
    obtain ⟨hO358, e358⟩ := hO357.dropS
    obtain ⟨hO359, e359⟩ := hO358.drop1
    obtain ⟨hO360, e360⟩ := hO359.drop1
    rw [← Option.some.inj h]
    exact ⟨rfl, hO360, (e3.trans (e6.trans (e12.trans (e26.trans (e39.trans (e45.trans (e46.trans (e49.trans (e52.trans (e236.trans (e237.trans (e357.trans (e358.trans (e359.trans e360))))))))))))))⟩
  replace h := iF (nt hb13) h
  refine c_condT (congrArg Value.bool (nnf hb13)) ?_
  refine c_seq ?_
  refine c_reg ?_
  refine sv (r_assign (v := .bool false) rfl) ?_
  refine s_nil ?_
  refine c_next ?_
  refine c_ret ?_
  refine r_then ?_
  refine e_1 (v := .bool false) Try.results4 rfl ?_
  obtain ⟨hO361, e361⟩ := hO12.drop1
  obtain ⟨hO362, e362⟩ := hO361.drop1
  rw [← Option.some.inj h]
  exact ⟨rfl, hO362, (e3.trans (e6.trans (e12.trans (e361.trans e362))))⟩
end Go.Proofs.Ytbigpfenlmfhgaa

