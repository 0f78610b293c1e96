/- A part of the proof that the row of the law holds of the program as translated: lemmas and contracts of its functions. -/
import Derived.Test.YtbigpfenlmfhgaaX27s0
import Derived.Test.YtbigpfenlmfhgaaProg
import Derived.Test.YtbigpfenlmfhgaaAvI
import Derived.Test.YtbigpfenlmfhgaaX27p
set_option linter.unusedVariables false
set_option linter.unusedSimpArgs false
set_option maxRecDepth 10000
namespace Go.Proofs.Ytbigpfenlmfhgaa
open Go.GV Go.AV Go.RowKit
attribute [local irreducible] wpList
theorem c_slices_Equal_ticket_Ticket (x0 : (List T_ticket_Ticket)) (x1 : (List T_ticket_Ticket)) (aP0 : Option Addr) (mP0 cP0 : Nat) (aP1 : Option Addr) (mP1 cP1 : Nat)  (r : Bool) (h : F_slices_Equal_ticket_Ticket x0 x1 = some r) (w : World) (L : Hp) (hm0p : x0.length = mP0) (hc0p : mP0 ≤ cP0) (hR0p : Rd w L aP0 (fl e_ticket_Ticket x0)) (hm1p : x1.length = mP1) (hc1p : mP1 ≤ cP1) (hR1p : Rd w L aP1 (fl e_ticket_Ticket x1)) (hO : Own w L) :
    Calls Try.prog 37 #[(.slice aP0 mP0 cP0), (.slice aP1 mP1 cP1)] w fun en w' => en = .returned (.bool r) ∧ Own w' L ∧ Ext w L w' L := by
  unfold F_slices_Equal_ticket_Ticket at h
  refine enter (n := 26) [(.slice aP0 mP0 cP0), (.slice aP1 mP1 cP1)] Try.func37 rfl rfl (Nat.le_of_ble_eq_true rfl) ?_
  refine c_seq ?_
  refine c_reg ?_
  refine sv (r_assign (v := .bool false) rfl) ?_
  refine s_nil ?_
  refine c_next ?_
  refine c_seq ?_
  obtain ⟨oc1, G1, hG1, h, hr1⟩ := bindG h
  refine c_cutL hO (fun Lc f0 g w' => ∃ (xc1_t10 : Bool), (G1 xc1_t10 = some r) ∧ g 0 = (.slice aP0 mP0 cP0) ∧ g 1 = (.slice aP1 mP1 cP1) ∧ g 10 = (.bool xc1_t10) ∧ Own w' L ∧ Ext w Lc w' L) ?_ ?_
  · skip
    refine c_reg ?_
    refine sv (r_move (v := .slice _ _ _) rfl) ?_
    refine sv (r_lenL (xs := x0) Try.underlying25 rfl hm0p) ?_
    refine sv (r_move (v := .slice _ _ _) rfl) ?_
    refine sv (r_lenL (xs := x1) Try.underlying25 rfl hm1p) ?_
    refine c_neq rfl rfl (fun h10 => ?_) (fun h10 => ?_)
    · replace h := iT h10 h
      refine s_nil ?_
      refine c_next ?_
      rw [← Option.some.inj h] at hr1
      exact ⟨_, rfl, true, hr1, rfl, rfl, rfl, hO, (Ext.refl _ _)⟩
    replace h := iF (Classical.not_not.2 h10) h
    refine s_nil ?_
    refine c_next ?_
    rw [← Option.some.inj h] at hr1
    exact ⟨_, rfl, false, hr1, rfl, rfl, rfl, hO, (Ext.refl _ _)⟩
  intro gg1 w1 hI1
  clear h hr1
  obtain ⟨xc1_t10, h, hsc1_0, hsc1_1, hsc1_10, hO1, e1⟩ := hI1
  replace h := hG_ hG1 h; clear hG1
  obtain ⟨qq1, rfl⟩ := fr3 hsc1_0 hsc1_1 hsc1_10
  clear hsc1_0 hsc1_1 hsc1_10
  rcases Bool.eq_false_or_eq_true (xc1_t10) with hb2 | hb2
  · replace h := iT hb2 h
    refine c_condT (congrArg Value.bool hb2) ?_
    refine c_seq ?_
    refine c_reg ?_
    refine sv (r_assign (v := .bool false) rfl) ?_
    refine s_nil ?_
    refine c_next ?_
    refine c_ret ?_
    refine r_then ?_
    refine e_1 (v := .bool false) Try.results37 rfl ?_
    rw [← Option.some.inj h]
    exact ⟨rfl, hO1, e1⟩
  replace h := iF (nt hb2) h
  refine c_condF (congrArg Value.bool hb2) ?_
  refine c_skip ?_
  refine c_next ?_
  refine c_seq ?_
  refine c_seq ?_
  refine c_reg ?_
  refine sv (r_move (v := .slice _ _ _) rfl) ?_
  refine sv (r_lenL (xs := x0) Try.underlying25 rfl hm0p) ?_
  refine sv (r_move (v := .int _ _) rfl) ?_
  refine s_nil ?_
  refine c_next ?_
  refine c_block ?_
  have hR0p := (hR0p.ext e1)
  have hR1p := (hR1p.ext e1)
  obtain ⟨kl9, hkl9⟩ := loop_iff.1 h
  clear h
  refine c_loopL hO1 (fun Lc f0 m g wl => ∃ (xl2_t13 : Int), (iterK (slices_Equal_ticket_Ticket_l2 x0 x1) m xl2_t13 = some r) ∧ g 0 = (.slice aP0 mP0 cP0) ∧ g 1 = (.slice aP1 mP1 cP1) ∧ g 12 = (.int .i64 ((x0.length : Int))) ∧ g 13 = (.int .i64 xl2_t13) ∧ Own wl L ∧ Ext w1 Lc wl L) kl9 ?_ ?_
  · skip
    exact ⟨0, hkl9, rfl, rfl, rfl, rfl, hO1, (Ext.refl _ _)⟩
  clear hkl9
  intro mm9 gg9 w9 hI9
  obtain ⟨xl2_t13, hkl9, hsl2_0, hsl2_1, hsl2_12, hsl2_13, hO9, e9⟩ := hI9
  obtain ⟨kl9, yl9, rfl, h, hyl9⟩ := iterE hkl9
  clear hkl9
  obtain ⟨qq9, rfl⟩ := fr4 hsl2_0 hsl2_1 hsl2_12 hsl2_13
  clear hsl2_0 hsl2_1 hsl2_12 hsl2_13
  refine c_seq ?_
  refine c_reg ?_
  refine c_lss rfl rfl (fun h14 => ?_) (fun h14 => ?_)
  · replace h := iT h14 h
    refine s_nil ?_
    refine c_next ?_
    refine c_seq ?_
    refine c_condT rfl ?_
    refine c_skip ?_
    refine c_next ?_
    refine c_seq ?_
    refine c_block ?_
    refine c_seq ?_
    refine c_reg ?_
    refine sv (r_move (v := .int _ _) rfl) ?_
    refine sv (r_assign (v := .int _ _) rfl) ?_
    refine s_nil ?_
    refine c_next ?_
    refine c_seq ?_
    have hR0p := (hR0p.ext e9)
    have hR1p := (hR1p.ext e9)
    refine d_startL hO9 hO9 9 (by kernel_rfl) (pk_then (pk_block (pk_then (pk_then (pk_block (pk_then pk_body)))))) ?_
    intro hP11 wd11 hK11 hO10 e10
    refine dT (i := 0) (listed' := #[I_,O_,O_,O_,O_,O_,O_,O_,O_]) rfl hP11 hK11 (fun wS hS => (r_move (v := .slice _ _ _) rfl)) ?_
    refine dT (i := 1) (listed' := #[I_,I_,O_,O_,O_,O_,O_,O_,O_]) rfl hP11 hK11 (fun wS hS => (r_move (v := .int _ _) rfl)) ?_
    obtain ⟨y18, hy18, h⟩ := bindE h
    obtain ⟨ad18, had18, hk18⟩ := ix_known (e := e_ticket_Ticket) (Rd.cs hR0p) e_ticket_Ticket_len (by decide) hy18
    have hx18 : Value.slice aP0 mP0 cP0 = .slice (some ad18) mP0 cP0 := by rw [had18]
    refine dT (i := 2) (listed' := #[I_,I_,I_,O_,O_,O_,O_,O_,O_]) rfl hP11 hK11 (fun wS hS => (ra_idx (xs := x0) (i := xl2_t13) Try.underlying25 I59 (by exact hx18) (by rfl) hm0p hy18)) ?_
    refine dT (i := 3) (listed' := #[I_,I_,I_,I_,O_,O_,O_,O_,O_]) rfl hP11 hK11 (fun wS hS => (r_loadN (cs := [(.int .i64 y18.No), (.int .i64 y18.For), (.int .i64 y18.Until)]) Try.underlying59 rfl I59 rfl rfl (hk18 _ (hR0p.kept hS)))) ?_
    refine dT (i := 4) (listed' := #[I_,I_,I_,I_,I_,O_,O_,O_,O_]) rfl hP11 hK11 (fun wS hS => (r_move (v := .slice _ _ _) rfl)) ?_
    refine dT (i := 5) (listed' := #[I_,I_,I_,I_,I_,I_,O_,O_,O_]) rfl hP11 hK11 (fun wS hS => (r_move (v := .int _ _) rfl)) ?_
    obtain ⟨y22, hy22, h⟩ := bindE h
    obtain ⟨ad22, had22, hk22⟩ := ix_known (e := e_ticket_Ticket) (Rd.cs hR1p) e_ticket_Ticket_len (by decide) hy22
    have hx22 : Value.slice aP1 mP1 cP1 = .slice (some ad22) mP1 cP1 := by rw [had22]
    refine dT (i := 6) (listed' := #[I_,I_,I_,I_,I_,I_,I_,O_,O_]) rfl hP11 hK11 (fun wS hS => (ra_idx (xs := x1) (i := xl2_t13) Try.underlying25 I59 (by exact hx22) (by rfl) hm1p hy22)) ?_
    refine dT (i := 7) (listed' := #[I_,I_,I_,I_,I_,I_,I_,I_,O_]) rfl hP11 hK11 (fun wS hS => (r_loadN (cs := [(.int .i64 y22.No), (.int .i64 y22.For), (.int .i64 y22.Until)]) Try.underlying59 rfl I59 rfl rfl (hk22 _ (hR1p.kept hS)))) ?_
    refine dT (i := 8) (listed' := #[I_,I_,I_,I_,I_,I_,I_,I_,I_]) rfl hP11 hK11 (fun wS hS => (r_stNe (u := y18) (v := y22) (by kernel_rfl) (fun D => eq_59 D _ _ _) rfl rfl)) ?_
    refine d_done (by kernel_rfl) ?_
    refine c_next ?_
    rcases Bool.eq_false_or_eq_true ((decide (y18 = y22))) with hb12 | hb12
    · replace h := iT hb12 h
      refine c_condF (congrArg Value.bool (nnt hb12)) ?_
      refine c_skip ?_
      refine x_norm ?_
      refine c_next ?_
      refine c_reg ?_
      refine sv (r_addI (a := xl2_t13) (b := 1) rfl rfl) ?_
      refine sv (r_move (v := .int _ _) rfl) ?_
      refine s_nil ?_
      refine l_end (m' := kl9) (Nat.lt_succ_self _) ?_
      rw [← Option.some.inj h] at hyl9
      exact ⟨(w64 (xl2_t13 + 1)), hyl9, rfl, rfl, rfl, rfl, hO10, (e9.trans e10)⟩
    replace h := iF (nt hb12) h
    refine c_condT (congrArg Value.bool (nnf hb12)) ?_
    refine c_seq ?_
    refine c_reg ?_
    refine sv (r_assign (v := .bool false) rfl) ?_
    refine s_nil ?_
    refine c_next ?_
    refine c_ret ?_
    refine r_block ?_
    refine r_then ?_
    refine r_then ?_
    refine r_block ?_
    refine r_then ?_
    replace h := crossE h hyl9
    refine e_1 (v := .bool false) Try.results37 rfl ?_
    rw [← Option.some.inj h]
    exact ⟨rfl, hO10, (e1.trans (e9.trans e10))⟩
  replace h := iF (Int.not_lt.2 h14) h
  refine s_nil ?_
  refine c_next ?_
  refine c_seq ?_
  refine c_condF rfl ?_
  refine c_exit ?_
  refine x_then ?_
  refine x_then ?_
  refine x_same ?_
  replace h := crossE h hyl9
  refine c_next ?_
  refine c_seq ?_
  refine c_reg ?_
  refine sv (r_assign (v := .bool true) rfl) ?_
  refine s_nil ?_
  refine c_next ?_
  refine c_ret ?_
  refine e_1 (v := .bool true) Try.results37 rfl ?_
  rw [← Option.some.inj h]
  exact ⟨rfl, hO9, (e1.trans e9)⟩
theorem c_claim_Same (x0 : T_claim_State) (x1 : T_claim_State) (aP0 : Option Addr) (mP0 cP0 : Nat) (aP1 : Option Addr) (mP1 cP1 : Nat) (aP2 : Option Addr) (mP2 cP2 : Nat) (aP3 : Option Addr) (mP3 cP3 : Nat)  (r : Bool) (h : F_claim_Same x0 x1 = some r) (w : World) (L : Hp) (hm0p : x0.Roster.length = mP0) (hc0p : mP0 ≤ cP0) (hR0p : Rd w L aP0 (fl e_roster_Device x0.Roster)) (hm1p : x0.Tickets.length = mP1) (hc1p : mP1 ≤ cP1) (hR1p : Rd w L aP1 (fl e_ticket_Ticket x0.Tickets)) (hm2p : x1.Roster.length = mP2) (hc2p : mP2 ≤ cP2) (hR2p : Rd w L aP2 (fl e_roster_Device x1.Roster)) (hm3p : x1.Tickets.length = mP3) (hc3p : mP3 ≤ cP3) (hR3p : Rd w L aP3 (fl e_ticket_Ticket x1.Tickets)) (hO : Own w L) :
    Calls Try.prog 14 #[(.agg #[(.int .i64 x0.Epoch), (.int .i64 x0.Owner), (.int .i64 x0.Next), (.slice aP0 mP0 cP0), (.slice aP1 mP1 cP1)]), (.agg #[(.int .i64 x1.Epoch), (.int .i64 x1.Owner), (.int .i64 x1.Next), (.slice aP2 mP2 cP2), (.slice aP3 mP3 cP3)])] w fun en w' => en = .returned (.bool r) ∧ Own w' L ∧ Ext w L w' L := by
  unfold F_claim_Same at h
  refine enter (n := 38) [(.agg #[(.int .i64 x0.Epoch), (.int .i64 x0.Owner), (.int .i64 x0.Next), (.slice aP0 mP0 cP0), (.slice aP1 mP1 cP1)]), (.agg #[(.int .i64 x1.Epoch), (.int .i64 x1.Owner), (.int .i64 x1.Next), (.slice aP2 mP2 cP2), (.slice aP3 mP3 cP3)])] Try.func14 rfl rfl (Nat.le_of_ble_eq_true rfl) ?_
  refine c_seq ?_
  refine c_reg ?_
  refine s_box (v := (.agg #[(.int .i64 x0.Epoch), (.int .i64 x0.Owner), (.int .i64 x0.Next), (.slice aP0 mP0 cP0), (.slice aP1 mP1 cP1)])) rfl hO ?_
  intro b2 w3 hz2 hl2 hO3 e3
  have hO4 : Own w3 ((b2, .cells #[(.int .i64 x0.Epoch), (.int .i64 x0.Owner), (.int .i64 x0.Next), (.slice aP0 mP0 cP0), (.slice aP1 mP1 cP1)] 27 (0, 0)) :: L) := hO3
  refine s_box (v := (.agg #[(.int .i64 x1.Epoch), (.int .i64 x1.Owner), (.int .i64 x1.Next), (.slice aP2 mP2 cP2), (.slice aP3 mP3 cP3)])) rfl hO4 ?_
  intro b3 w6 hz3 hl3 hO6 e6
  have hO7 : Own w6 ((b3, .cells #[(.int .i64 x1.Epoch), (.int .i64 x1.Owner), (.int .i64 x1.Next), (.slice aP2 mP2 cP2), (.slice aP3 mP3 cP3)] 27 (0, 0)) :: ((b2, .cells #[(.int .i64 x0.Epoch), (.int .i64 x0.Owner), (.int .i64 x0.Next), (.slice aP0 mP0 cP0), (.slice aP1 mP1 cP1)] 27 (0, 0)) :: L)) := hO6
  refine sv (r_assign (v := .bool false) rfl) ?_
  refine s_nil ?_
  refine c_next ?_
  refine c_seq ?_
  refine c_reg ?_
  refine sv (r_fieldAddr Try.underlying27 rfl I3 (by decide) rfl) ?_
  refine s_load1 (v := .int _ _) Try.underlying3 rfl rfl (cellB (hO7.get (i := 1) rfl) rfl rfl) ?_
  refine sv (r_fieldAddr Try.underlying27 rfl I3 (by decide) rfl) ?_
  refine s_load1 (v := .int _ _) Try.underlying3 rfl rfl (cellB (hO7.get (i := 0) rfl) rfl rfl) ?_
  refine c_eql rfl rfl (fun h9 => ?_) (fun h9 => ?_)
  · replace h := iT h9 h
    refine sv (r_move (v := .bool true) rfl) ?_
    refine g_do 10 (by rfl) rfl ?_
    refine sv (r_fieldAddr Try.underlying27 rfl I3 (by decide) rfl) ?_
    refine g_do 10 (by rfl) rfl ?_
    refine s_load1 (v := .int _ _) Try.underlying3 rfl rfl (cellB (hO7.get (i := 1) rfl) rfl rfl) ?_
    refine g_do 10 (by rfl) rfl ?_
    refine sv (r_fieldAddr Try.underlying27 rfl I3 (by decide) rfl) ?_
    refine g_do 10 (by rfl) rfl ?_
    refine s_load1 (v := .int _ _) Try.underlying3 rfl rfl (cellB (hO7.get (i := 0) rfl) rfl rfl) ?_
    refine g_do 10 (by rfl) rfl ?_
    refine c_eql rfl rfl (fun h15 => ?_) (fun h15 => ?_)
    · replace h := iT h15 h
      refine sv (r_pickT (v := .bool true) rfl rfl) ?_
      refine sv (r_move (v := .bool true) rfl) ?_
      refine g_do 17 (by rfl) rfl ?_
      refine sv (r_fieldAddr Try.underlying27 rfl I3 (by decide) rfl) ?_
      refine g_do 17 (by rfl) rfl ?_
      refine s_load1 (v := .int _ _) Try.underlying3 rfl rfl (cellB (hO7.get (i := 1) rfl) rfl rfl) ?_
      refine g_do 17 (by rfl) rfl ?_
      refine sv (r_fieldAddr Try.underlying27 rfl I3 (by decide) rfl) ?_
      refine g_do 17 (by rfl) rfl ?_
      refine s_load1 (v := .int _ _) Try.underlying3 rfl rfl (cellB (hO7.get (i := 0) rfl) rfl rfl) ?_
      refine g_do 17 (by rfl) rfl ?_
      refine c_eql rfl rfl (fun h22 => ?_) (fun h22 => ?_)
      · replace h := iT h22 h
        refine sv (r_pickT (v := .bool true) rfl rfl) ?_
        refine sv (r_move (v := .bool true) rfl) ?_
        refine g_do 24 (by rfl) rfl ?_
        refine sv (r_fieldAddr Try.underlying27 rfl I24 (by decide) rfl) ?_
        refine g_do 24 (by rfl) rfl ?_
        refine s_load1 (v := .slice _ _ _) Try.underlying24 rfl rfl (cellB (hO7.get (i := 1) rfl) rfl rfl) ?_
        refine g_do 24 (by rfl) rfl ?_
        refine sv (r_fieldAddr Try.underlying27 rfl I24 (by decide) rfl) ?_
        refine g_do 24 (by rfl) rfl ?_
        refine s_load1 (v := .slice _ _ _) Try.underlying24 rfl rfl (cellB (hO7.get (i := 0) rfl) rfl rfl) ?_
        refine g_do 24 (by rfl) rfl ?_
        obtain ⟨y29, hy29, h⟩ := bindE h
        refine s_call cf36 rfl (c_slices_Equal_roster_Device x0.Roster x1.Roster aP0 mP0 cP0 aP2 mP2 cP2 _ hy29 _ _ hm0p hc0p (hR0p.ext (e3.trans e6)) hm2p hc2p (hR2p.ext (e3.trans e6)) hO7) ?_
        rintro er29 w9 ⟨rfl, hO9, e9⟩
        refine ⟨_, rfl, ?_⟩
        refine sv (r_pickT (v := .bool _) rfl rfl) ?_
        refine sv (r_move (v := .bool _) rfl) ?_
        rcases Bool.eq_false_or_eq_true (y29) with hb10 | hb10
        · replace h := iT hb10 h
          refine g_do 31 (by rfl) (congrArg Value.bool hb10) ?_
          refine sv (r_fieldAddr Try.underlying27 rfl I25 (by decide) rfl) ?_
          refine g_do 31 (by rfl) (congrArg Value.bool hb10) ?_
          refine s_load1 (v := .slice _ _ _) Try.underlying25 rfl rfl (cellB (hO9.get (i := 1) rfl) rfl rfl) ?_
          refine g_do 31 (by rfl) (congrArg Value.bool hb10) ?_
          refine sv (r_fieldAddr Try.underlying27 rfl I25 (by decide) rfl) ?_
          refine g_do 31 (by rfl) (congrArg Value.bool hb10) ?_
          refine s_load1 (v := .slice _ _ _) Try.underlying25 rfl rfl (cellB (hO9.get (i := 0) rfl) rfl rfl) ?_
          refine g_do 31 (by rfl) (congrArg Value.bool hb10) ?_
          obtain ⟨y36, hy36, h⟩ := bindE h
          refine s_call cf37 rfl (c_slices_Equal_ticket_Ticket x0.Tickets x1.Tickets aP1 mP1 cP1 aP3 mP3 cP3 _ hy36 _ _ hm1p hc1p (hR1p.ext (e3.trans (e6.trans e9))) hm3p hc3p (hR3p.ext (e3.trans (e6.trans e9))) hO9) ?_
          rintro er36 w11 ⟨rfl, hO11, e11⟩
          refine ⟨_, rfl, ?_⟩
          refine sv (r_pickT (v := .bool _) (by exact (congrArg Value.bool hb10)) rfl) ?_
          refine sv (r_assign (v := .bool _) rfl) ?_
          refine s_nil ?_
          refine c_next ?_
          refine c_ret ?_
          refine e_1 (v := .bool _) Try.results14 rfl ?_
          obtain ⟨hO12, e12⟩ := hO11.drop1
          obtain ⟨hO13, e13⟩ := hO12.drop1
          rw [← Option.some.inj h]
          exact ⟨rfl, hO13, (e3.trans (e6.trans (e9.trans (e11.trans (e12.trans e13)))))⟩
        replace h := iF (nt hb10) h
        refine g_skip 31 (by rfl) (congrArg Value.bool hb10) (by rfl) ?_
        refine g_skip 31 (by rfl) (congrArg Value.bool hb10) (by rfl) ?_
        refine g_skip 31 (by rfl) (congrArg Value.bool hb10) (by rfl) ?_
        refine g_skip 31 (by rfl) (congrArg Value.bool hb10) (by rfl) ?_
        refine g_skip 31 (by rfl) (congrArg Value.bool hb10) (by rfl) ?_
        refine sv (r_pickF (v := .bool false) (by exact (congrArg Value.bool hb10)) rfl) ?_
        refine sv (r_assign (v := .bool false) rfl) ?_
        refine s_nil ?_
        refine c_next ?_
        refine c_ret ?_
        refine e_1 (v := .bool false) Try.results14 rfl ?_
        obtain ⟨hO14, e14⟩ := hO9.drop1
        obtain ⟨hO15, e15⟩ := hO14.drop1
        rw [← Option.some.inj h]
        exact ⟨rfl, hO15, (e3.trans (e6.trans (e9.trans (e14.trans e15))))⟩
      replace h := iF h22 h
      refine sv (r_pickT (v := .bool false) rfl rfl) ?_
      refine sv (r_move (v := .bool false) rfl) ?_
      refine g_skip 24 (by rfl) rfl (by rfl) ?_
      refine g_skip 24 (by rfl) rfl (by rfl) ?_
      refine g_skip 24 (by rfl) rfl (by rfl) ?_
      refine g_skip 24 (by rfl) rfl (by rfl) ?_
      refine g_skip 24 (by rfl) rfl (by rfl) ?_
      refine sv (r_pickF (v := .bool false) rfl rfl) ?_
      refine sv (r_move (v := .bool false) rfl) ?_
      refine g_skip 31 (by rfl) rfl (by rfl) ?_
      refine g_skip 31 (by rfl) rfl (by rfl) ?_
      refine g_skip 31 (by rfl) rfl (by rfl) ?_
      refine g_skip 31 (by rfl) rfl (by rfl) ?_
      refine g_skip 31 (by rfl) rfl (by rfl) ?_
      refine sv (r_pickF (v := .bool false) rfl rfl) ?_
      refine sv (r_assign (v := .bool false) rfl) ?_
      refine s_nil ?_
      refine c_next ?_
      refine c_ret ?_
      refine e_1 (v := .bool false) Try.results14 rfl ?_
      obtain ⟨hO16, e16⟩ := hO7.drop1
      obtain ⟨hO17, e17⟩ := hO16.drop1
      rw [← Option.some.inj h]
      exact ⟨rfl, hO17, (e3.trans (e6.trans (e16.trans e17)))⟩
    replace h := iF h15 h
    refine sv (r_pickT (v := .bool false) rfl rfl) ?_
    refine sv (r_move (v := .bool false) rfl) ?_
    refine g_skip 17 (by rfl) rfl (by rfl) ?_
    refine g_skip 17 (by rfl) rfl (by rfl) ?_
    refine g_skip 17 (by rfl) rfl (by rfl) ?_
    refine g_skip 17 (by rfl) rfl (by rfl) ?_
    refine g_skip 17 (by rfl) rfl (by rfl) ?_
    refine sv (r_pickF (v := .bool false) rfl rfl) ?_
    refine sv (r_move (v := .bool false) rfl) ?_
    refine g_skip 24 (by rfl) rfl (by rfl) ?_
    refine g_skip 24 (by rfl) rfl (by rfl) ?_
    refine g_skip 24 (by rfl) rfl (by rfl) ?_
    refine g_skip 24 (by rfl) rfl (by rfl) ?_
    refine g_skip 24 (by rfl) rfl (by rfl) ?_
    refine sv (r_pickF (v := .bool false) rfl rfl) ?_
    refine sv (r_move (v := .bool false) rfl) ?_
    refine g_skip 31 (by rfl) rfl (by rfl) ?_
    refine g_skip 31 (by rfl) rfl (by rfl) ?_
    refine g_skip 31 (by rfl) rfl (by rfl) ?_
    refine g_skip 31 (by rfl) rfl (by rfl) ?_
    refine g_skip 31 (by rfl) rfl (by rfl) ?_
    refine sv (r_pickF (v := .bool false) rfl rfl) ?_
    refine sv (r_assign (v := .bool false) rfl) ?_
    refine s_nil ?_
    refine c_next ?_
    refine c_ret ?_
    refine e_1 (v := .bool false) Try.results14 rfl ?_
    obtain ⟨hO18, e18⟩ := hO7.drop1
    obtain ⟨hO19, e19⟩ := hO18.drop1
    rw [← Option.some.inj h]
    exact ⟨rfl, hO19, (e3.trans (e6.trans (e18.trans e19)))⟩
  replace h := iF h9 h
  refine sv (r_move (v := .bool false) rfl) ?_
  refine g_skip 10 (by rfl) rfl (by rfl) ?_
  refine g_skip 10 (by rfl) rfl (by rfl) ?_
  refine g_skip 10 (by rfl) rfl (by rfl) ?_
  refine g_skip 10 (by rfl) rfl (by rfl) ?_
  refine g_skip 10 (by rfl) rfl (by rfl) ?_
  refine sv (r_pickF (v := .bool false) rfl rfl) ?_
  refine sv (r_move (v := .bool false) rfl) ?_
  refine g_skip 17 (by rfl) rfl (by rfl) ?_
  refine g_skip 17 (by rfl) rfl (by rfl) ?_
  refine g_skip 17 (by rfl) rfl (by rfl) ?_
  refine g_skip 17 (by rfl) rfl (by rfl) ?_
  refine g_skip 17 (by rfl) rfl (by rfl) ?_
  refine sv (r_pickF (v := .bool false) rfl rfl) ?_
  refine sv (r_move (v := .bool false) rfl) ?_
  refine g_skip 24 (by rfl) rfl (by rfl) ?_
  refine g_skip 24 (by rfl) rfl (by rfl) ?_
  refine g_skip 24 (by rfl) rfl (by rfl) ?_
  refine g_skip 24 (by rfl) rfl (by rfl) ?_
  refine g_skip 24 (by rfl) rfl (by rfl) ?_
  refine sv (r_pickF (v := .bool false) rfl rfl) ?_
  refine sv (r_move (v := .bool false) rfl) ?_
  refine g_skip 31 (by rfl) rfl (by rfl) ?_
  refine g_skip 31 (by rfl) rfl (by rfl) ?_
  refine g_skip 31 (by rfl) rfl (by rfl) ?_
  refine g_skip 31 (by rfl) rfl (by rfl) ?_
  refine g_skip 31 (by rfl) rfl (by rfl) ?_
  refine sv (r_pickF (v := .bool false) rfl rfl) ?_
  refine sv (r_assign (v := .bool false) rfl) ?_
  refine s_nil ?_
  refine c_next ?_
  refine c_ret ?_
  refine e_1 (v := .bool false) Try.results14 rfl ?_
  obtain ⟨hO20, e20⟩ := hO7.drop1
  obtain ⟨hO21, e21⟩ := hO20.drop1
  rw [← Option.some.inj h]
  exact ⟨rfl, hO21, (e3.trans (e6.trans (e20.trans e21)))⟩
theorem c_batonlaw27_Few (x0 : T_claim_State) (aP0 : Option Addr) (mP0 cP0 : Nat) (aP1 : Option Addr) (mP1 cP1 : Nat)  (r : Bool) (h : F_batonlaw27_Few x0 = some r) (w : World) (L : Hp) (hm0p : x0.Roster.length = mP0) (hc0p : mP0 ≤ cP0) (hR0p : Rd w L aP0 (fl e_roster_Device x0.Roster)) (hm1p : x0.Tickets.length = mP1) (hc1p : mP1 ≤ cP1) (hR1p : Rd w L aP1 (fl e_ticket_Ticket x0.Tickets)) (hO : Own w L) :
    Calls Try.prog 15 #[(.agg #[(.int .i64 x0.Epoch), (.int .i64 x0.Owner), (.int .i64 x0.Next), (.slice aP0 mP0 cP0), (.slice aP1 mP1 cP1)])] w fun en w' => en = .returned (.bool r) ∧ Own w' L ∧ Ext w L w' L := by
  unfold F_batonlaw27_Few at h
  refine enter (n := 13) [(.agg #[(.int .i64 x0.Epoch), (.int .i64 x0.Owner), (.int .i64 x0.Next), (.slice aP0 mP0 cP0), (.slice aP1 mP1 cP1)])] Try.func15 rfl rfl (Nat.le_of_ble_eq_true rfl) ?_
  refine c_seq ?_
  refine c_reg ?_
  refine s_box (v := (.agg #[(.int .i64 x0.Epoch), (.int .i64 x0.Owner), (.int .i64 x0.Next), (.slice aP0 mP0 cP0), (.slice aP1 mP1 cP1)])) rfl hO ?_
  intro b1 w2 hz1 hl1 hO2 e2
  have hO3 : Own w2 ((b1, .cells #[(.int .i64 x0.Epoch), (.int .i64 x0.Owner), (.int .i64 x0.Next), (.slice aP0 mP0 cP0), (.slice aP1 mP1 cP1)] 27 (0, 0)) :: L) := hO2
  refine sv (r_assign (v := .bool false) rfl) ?_
  refine s_nil ?_
  refine c_next ?_
  refine c_seq ?_
  refine c_reg ?_
  refine sv (r_fieldAddr Try.underlying27 rfl I24 (by decide) rfl) ?_
  refine s_load1 (v := .slice _ _ _) Try.underlying24 rfl rfl (cellB (hO3.get (i := 0) rfl) rfl rfl) ?_
  refine sv (r_lenL (xs := x0.Roster) Try.underlying24 rfl hm0p) ?_
  refine c_leq rfl rfl (fun h6 => ?_) (fun h6 => ?_)
  · replace h := iT h6 h
    refine sv (r_move (v := .bool true) rfl) ?_
    refine g_do 7 (by rfl) rfl ?_
    refine sv (r_fieldAddr Try.underlying27 rfl I25 (by decide) rfl) ?_
    refine g_do 7 (by rfl) rfl ?_
    refine s_load1 (v := .slice _ _ _) Try.underlying25 rfl rfl (cellB (hO3.get (i := 0) rfl) rfl rfl) ?_
    refine g_do 7 (by rfl) rfl ?_
    refine sv (r_lenL (xs := x0.Tickets) Try.underlying25 rfl hm1p) ?_
    refine g_do 7 (by rfl) rfl ?_
    refine c_leq rfl rfl (fun h11 => ?_) (fun h11 => ?_)
    · replace h := iT h11 h
      refine sv (r_pickT (v := .bool true) rfl rfl) ?_
      refine sv (r_assign (v := .bool true) rfl) ?_
      refine s_nil ?_
      refine c_next ?_
      refine c_ret ?_
      refine e_1 (v := .bool true) Try.results15 rfl ?_
      obtain ⟨hO5, e5⟩ := hO3.drop1
      rw [← Option.some.inj h]
      exact ⟨rfl, hO5, (e2.trans e5)⟩
    replace h := iF (Int.not_le.2 h11) h
    refine sv (r_pickT (v := .bool false) rfl rfl) ?_
    refine sv (r_assign (v := .bool false) rfl) ?_
    refine s_nil ?_
    refine c_next ?_
    refine c_ret ?_
    refine e_1 (v := .bool false) Try.results15 rfl ?_
    obtain ⟨hO6, e6⟩ := hO3.drop1
    rw [← Option.some.inj h]
    exact ⟨rfl, hO6, (e2.trans e6)⟩
  replace h := iF (Int.not_le.2 h6) h
  refine sv (r_move (v := .bool false) rfl) ?_
  refine g_skip 7 (by rfl) rfl (by rfl) ?_
  refine g_skip 7 (by rfl) rfl (by rfl) ?_
  refine g_skip 7 (by rfl) rfl (by rfl) ?_
  refine g_skip 7 (by rfl) rfl (by rfl) ?_
  refine sv (r_pickF (v := .bool false) rfl rfl) ?_
  refine sv (r_assign (v := .bool false) rfl) ?_
  refine s_nil ?_
  refine c_next ?_
  refine c_ret ?_
  refine e_1 (v := .bool false) Try.results15 rfl ?_
  obtain ⟨hO7, e7⟩ := hO3.drop1
  rw [← Option.some.inj h]
  exact ⟨rfl, hO7, (e2.trans e7)⟩
theorem c_roster_Right (x0 : (List T_roster_Device)) (aP0 : Option Addr) (mP0 cP0 : Nat)  (r : Bool) (h : F_roster_Right x0 = some r) (w : World) (L : Hp) (hm0p : x0.length = mP0) (hc0p : mP0 ≤ cP0) (hR0p : Rd w L aP0 (fl e_roster_Device x0)) (hO : Own w L) :
    Calls Try.prog 38 #[(.slice aP0 mP0 cP0)] w fun en w' => en = .returned (.bool r) ∧ Own w' L ∧ Ext w L w' L := by
  unfold F_roster_Right at h
  refine enter (n := 56) [(.slice aP0 mP0 cP0)] Try.func38 rfl rfl (Nat.le_of_ble_eq_true rfl) ?_
  refine c_seq ?_
  refine c_reg ?_
  refine sv (r_assign (v := .bool false) rfl) ?_
  refine s_nil ?_
  refine c_next ?_
  refine c_seq ?_
  refine c_seq ?_
  refine c_reg ?_
  refine sv (r_move (v := .slice _ _ _) rfl) ?_
  refine sv (r_lenL (xs := x0) Try.underlying24 rfl hm0p) ?_
  refine sv (r_move (v := .int _ _) rfl) ?_
  refine s_nil ?_
  refine c_next ?_
  refine c_block ?_
  obtain ⟨kl19, hkl19⟩ := loop_iff.1 h
  clear h
  refine c_loopL hO (fun Lc f0 m g wl => ∃ (xl1_t7 : Int), (iterK (roster_Right_l1 x0) m xl1_t7 = some r) ∧ g 0 = (.slice aP0 mP0 cP0) ∧ g 5 = (.slice aP0 mP0 cP0) ∧ g 6 = (.int .i64 ((x0.length : Int))) ∧ g 7 = (.int .i64 xl1_t7) ∧ Own wl L ∧ Ext w Lc wl L) kl19 ?_ ?_
  · skip
    exact ⟨0, hkl19, rfl, rfl, rfl, rfl, hO, (Ext.refl _ _)⟩
  clear hkl19
  intro mm19 gg19 w19 hI19
  obtain ⟨xl1_t7, hkl19, hsl1_0, hsl1_5, hsl1_6, hsl1_7, hO19, e19⟩ := hI19
  obtain ⟨kl19, yl19, rfl, h, hyl19⟩ := iterE hkl19
  clear hkl19
  obtain ⟨qq19, rfl⟩ := fr4 hsl1_0 hsl1_5 hsl1_6 hsl1_7
  clear hsl1_0 hsl1_5 hsl1_6 hsl1_7
  have hR0p := (hR0p.ext e19)
  obtain ⟨oc20, G20, hG20, h, hr20⟩ := bindG h
  refine c_cutL hO19 (fun Lc f0 g w' => ∃ (xc2_t8 : Bool), (G20 xc2_t8 = some yl19) ∧ g 0 = (.slice aP0 mP0 cP0) ∧ g 5 = (.slice aP0 mP0 cP0) ∧ g 6 = (.int .i64 ((x0.length : Int))) ∧ g 7 = (.int .i64 xl1_t7) ∧ g 8 = (.bool xc2_t8) ∧ Own w' L ∧ Ext w19 Lc w' L) ?_ ?_
  · skip
    refine c_reg ?_
    refine c_lss rfl rfl (fun h8 => ?_) (fun h8 => ?_)
    · replace h := iT h8 h
      refine s_nil ?_
      refine c_next ?_
      rw [← Option.some.inj h] at hr20
      exact ⟨_, rfl, true, hr20, rfl, rfl, rfl, rfl, rfl, hO19, (Ext.refl _ _)⟩
    replace h := iF (Int.not_lt.2 h8) h
    refine s_nil ?_
    refine c_next ?_
    rw [← Option.some.inj h] at hr20
    exact ⟨_, rfl, false, hr20, rfl, rfl, rfl, rfl, rfl, hO19, (Ext.refl _ _)⟩
  intro gg20 w20 hI20
  clear h hr20
  obtain ⟨xc2_t8, h, hsc2_0, hsc2_5, hsc2_6, hsc2_7, hsc2_8, hO20, e20⟩ := hI20
  replace h := hG_ hG20 h; clear hG20
  obtain ⟨qq20, rfl⟩ := fr5 hsc2_0 hsc2_5 hsc2_6 hsc2_7 hsc2_8
  clear hsc2_0 hsc2_5 hsc2_6 hsc2_7 hsc2_8
  refine c_seq ?_
  rcases Bool.eq_false_or_eq_true (xc2_t8) with hb22 | hb22
  · replace h := iT hb22 h
    refine c_condT (congrArg Value.bool hb22) ?_
    refine c_skip ?_
    refine c_next ?_
    refine c_seq ?_
    refine c_block ?_
    refine c_seq ?_
    refine c_reg ?_
    refine sv (r_move (v := .int _ _) rfl) ?_
    obtain ⟨y10, hy10, h⟩ := bindE h
    refine a_idx (e := e_roster_Device) (xs := x0) (i := xl1_t7) Try.underlying24 I56 rfl rfl (Rd.cs (hR0p.ext e20)) e_roster_Device_len (by decide) hm0p hy10 ?_
    intro p10 hp10
    refine s_loadN (cs := [(.int .i64 y10.Id), (.int .i64 y10.Times), (.bool y10.Gone), (.int .i64 y10.Last)]) Try.underlying56 rfl I56 rfl rfl hp10 ?_
    refine s_alloc I56 hO20 ?_
    intro b4 w25 hz4 hl4 hO25 e25
    have hO26 : Own w25 ((b4, .cells #[(.int .i64 0), (.int .i64 0), (.bool false), (.int .i64 0)] 56 (0, 0)) :: L) := hO25
    refine sv (r_assign (v := .int _ _) rfl) ?_
    refine s_storeN (vs := #[(.int .i64 y10.Id), (.int .i64 y10.Times), (.bool y10.Gone), (.int .i64 y10.Last)]) I56 rfl rfl rfl hO26 (i := 0) rfl (Nat.le_of_ble_eq_true rfl) (List.all_eq_true.1 rfl) ?_
    intro w28 hO28 e28
    have hO29 : Own w28 ((b4, .cells #[(.int .i64 y10.Id), (.int .i64 y10.Times), (.bool y10.Gone), (.int .i64 y10.Last)] 56 (0, 0)) :: L) := hO28
    refine s_nil ?_
    refine c_next ?_
    refine c_seq ?_
    have hR0p := (hR0p.ext (e20.trans (e25.trans e28)))
    refine d_startL hO29 hO29 43 (by kernel_rfl) (pk_then (pk_block (pk_then (pk_then (pk_block (pk_then pk_body)))))) ?_
    intro hP32 wd32 hK32 hO31 e31
    refine dT (i := 0) (listed' := #[I_,O_,O_,O_,O_,O_,O_,O_,O_,O_,O_,O_,O_,O_,O_,O_,O_,O_,O_,O_,O_,O_,O_,O_,O_,O_,O_,O_,O_,O_,O_,O_,O_,O_,O_,O_,O_,O_,O_,O_,O_,O_,O_]) rfl hP32 hK32 (fun wS hS => (r_fieldAddr Try.underlying56 rfl I3 (by decide) rfl)) ?_
    refine dT (i := 1) (listed' := #[I_,I_,O_,O_,O_,O_,O_,O_,O_,O_,O_,O_,O_,O_,O_,O_,O_,O_,O_,O_,O_,O_,O_,O_,O_,O_,O_,O_,O_,O_,O_,O_,O_,O_,O_,O_,O_,O_,O_,O_,O_,O_,O_]) rfl hP32 hK32 (fun wS hS => (r_load1 (v := .int _ _) Try.underlying3 rfl rfl (cellB (hS.own.get (i := 0) rfl) rfl rfl))) ?_
    refine dt_lss (i := 2) (listed' := #[I_,I_,I_,O_,O_,O_,O_,O_,O_,O_,O_,O_,O_,O_,O_,O_,O_,O_,O_,O_,O_,O_,O_,O_,O_,O_,O_,O_,O_,O_,O_,O_,O_,O_,O_,O_,O_,O_,O_,O_,O_,O_,O_]) (by rfl) (by kernel_rfl) (by rfl) hP32.u rfl hK32 rfl rfl (fun h14 => ?_) (fun h14 => ?_)
    · replace h := iT h14 h
      refine dT (i := 3) (listed' := #[I_,I_,I_,I_,O_,O_,O_,O_,O_,O_,O_,O_,O_,O_,O_,O_,O_,O_,O_,O_,O_,O_,O_,O_,O_,O_,O_,O_,O_,O_,O_,O_,O_,O_,O_,O_,O_,O_,O_,O_,O_,O_,O_]) rfl hP32 hK32 (fun wS hS => (r_move (v := .bool true) rfl)) ?_
      refine dS (i := 4) (listed' := #[I_,I_,I_,I_,I_,O_,O_,O_,O_,O_,O_,O_,O_,O_,O_,O_,O_,O_,O_,O_,O_,O_,O_,O_,O_,O_,O_,O_,O_,O_,O_,O_,O_,O_,O_,O_,O_,O_,O_,O_,O_,O_,O_]) rfl 15 hP32 rfl hK32 ?_
      refine dS (i := 5) (listed' := #[I_,I_,I_,I_,I_,I_,O_,O_,O_,O_,O_,O_,O_,O_,O_,O_,O_,O_,O_,O_,O_,O_,O_,O_,O_,O_,O_,O_,O_,O_,O_,O_,O_,O_,O_,O_,O_,O_,O_,O_,O_,O_,O_]) rfl 15 hP32 rfl hK32 ?_
      refine dS (i := 6) (listed' := #[I_,I_,I_,I_,I_,I_,I_,O_,O_,O_,O_,O_,O_,O_,O_,O_,O_,O_,O_,O_,O_,O_,O_,O_,O_,O_,O_,O_,O_,O_,O_,O_,O_,O_,O_,O_,O_,O_,O_,O_,O_,O_,O_]) rfl 15 hP32 rfl hK32 ?_
      refine dT (i := 7) (listed' := #[I_,I_,I_,I_,I_,I_,I_,I_,O_,O_,O_,O_,O_,O_,O_,O_,O_,O_,O_,O_,O_,O_,O_,O_,O_,O_,O_,O_,O_,O_,O_,O_,O_,O_,O_,O_,O_,O_,O_,O_,O_,O_,O_]) rfl hP32 hK32 (fun wS hS => (r_pickT (v := .bool true) rfl rfl)) ?_
      refine dT (i := 8) (listed' := #[I_,I_,I_,I_,I_,I_,I_,I_,I_,O_,O_,O_,O_,O_,O_,O_,O_,O_,O_,O_,O_,O_,O_,O_,O_,O_,O_,O_,O_,O_,O_,O_,O_,O_,O_,O_,O_,O_,O_,O_,O_,O_,O_]) rfl hP32 hK32 (fun wS hS => (r_move (v := .bool true) rfl)) ?_
      refine dS (i := 9) (listed' := #[I_,I_,I_,I_,I_,I_,I_,I_,I_,I_,O_,O_,O_,O_,O_,O_,O_,O_,O_,O_,O_,O_,O_,O_,O_,O_,O_,O_,O_,O_,O_,O_,O_,O_,O_,O_,O_,O_,O_,O_,O_,O_,O_]) rfl 20 hP32 rfl hK32 ?_
      refine dS (i := 10) (listed' := #[I_,I_,I_,I_,I_,I_,I_,I_,I_,I_,I_,O_,O_,O_,O_,O_,O_,O_,O_,O_,O_,O_,O_,O_,O_,O_,O_,O_,O_,O_,O_,O_,O_,O_,O_,O_,O_,O_,O_,O_,O_,O_,O_]) rfl 20 hP32 rfl hK32 ?_
      refine dS (i := 11) (listed' := #[I_,I_,I_,I_,I_,I_,I_,I_,I_,I_,I_,I_,O_,O_,O_,O_,O_,O_,O_,O_,O_,O_,O_,O_,O_,O_,O_,O_,O_,O_,O_,O_,O_,O_,O_,O_,O_,O_,O_,O_,O_,O_,O_]) rfl 20 hP32 rfl hK32 ?_
      refine dU (i := 12) (listed' := #[I_,I_,I_,I_,I_,I_,I_,I_,I_,I_,I_,I_,I_,O_,O_,O_,O_,O_,O_,O_,O_,O_,O_,O_,O_,O_,O_,O_,O_,O_,O_,O_,O_,O_,O_,O_,O_,O_,O_,O_,O_,O_,O_]) rfl 23 hP32 hK32 ?_
      refine dU (i := 13) (listed' := #[I_,I_,I_,I_,I_,I_,I_,I_,I_,I_,I_,I_,I_,I_,O_,O_,O_,O_,O_,O_,O_,O_,O_,O_,O_,O_,O_,O_,O_,O_,O_,O_,O_,O_,O_,O_,O_,O_,O_,O_,O_,O_,O_]) rfl 23 hP32 hK32 ?_
      refine dU (i := 14) (listed' := #[I_,I_,I_,I_,I_,I_,I_,I_,I_,I_,I_,I_,I_,I_,I_,O_,O_,O_,O_,O_,O_,O_,O_,O_,O_,O_,O_,O_,O_,O_,O_,O_,O_,O_,O_,O_,O_,O_,O_,O_,O_,O_,O_]) rfl 23 hP32 hK32 ?_
      refine dU (i := 15) (listed' := #[I_,I_,I_,I_,I_,I_,I_,I_,I_,I_,I_,I_,I_,I_,I_,I_,O_,O_,O_,O_,O_,O_,O_,O_,O_,O_,O_,O_,O_,O_,O_,O_,O_,O_,O_,O_,O_,O_,O_,O_,O_,O_,O_]) rfl 23 hP32 hK32 ?_
      refine dU (i := 16) (listed' := #[I_,I_,I_,I_,I_,I_,I_,I_,I_,I_,I_,I_,I_,I_,I_,I_,I_,O_,O_,O_,O_,O_,O_,O_,O_,O_,O_,O_,O_,O_,O_,O_,O_,O_,O_,O_,O_,O_,O_,O_,O_,O_,O_]) rfl 23 hP32 hK32 ?_
      refine dU (i := 17) (listed' := #[I_,I_,I_,I_,I_,I_,I_,I_,I_,I_,I_,I_,I_,I_,I_,I_,I_,I_,O_,O_,O_,O_,O_,O_,O_,O_,O_,O_,O_,O_,O_,O_,O_,O_,O_,O_,O_,O_,O_,O_,O_,O_,O_]) rfl 23 hP32 hK32 ?_
      refine dU (i := 18) (listed' := #[I_,I_,I_,I_,I_,I_,I_,I_,I_,I_,I_,I_,I_,I_,I_,I_,I_,I_,I_,O_,O_,O_,O_,O_,O_,O_,O_,O_,O_,O_,O_,O_,O_,O_,O_,O_,O_,O_,O_,O_,O_,O_,O_]) rfl 23 hP32 hK32 ?_
      refine dU (i := 19) (listed' := #[I_,I_,I_,I_,I_,I_,I_,I_,I_,I_,I_,I_,I_,I_,I_,I_,I_,I_,I_,I_,O_,O_,O_,O_,O_,O_,O_,O_,O_,O_,O_,O_,O_,O_,O_,O_,O_,O_,O_,O_,O_,O_,O_]) rfl 23 hP32 hK32 ?_
      refine dU (i := 20) (listed' := #[I_,I_,I_,I_,I_,I_,I_,I_,I_,I_,I_,I_,I_,I_,I_,I_,I_,I_,I_,I_,I_,O_,O_,O_,O_,O_,O_,O_,O_,O_,O_,O_,O_,O_,O_,O_,O_,O_,O_,O_,O_,O_,O_]) rfl 23 hP32 hK32 ?_
      refine dS (i := 21) (listed' := #[I_,I_,I_,I_,I_,I_,I_,I_,I_,I_,I_,I_,I_,I_,I_,I_,I_,I_,I_,I_,I_,I_,O_,O_,O_,O_,O_,O_,O_,O_,O_,O_,O_,O_,O_,O_,O_,O_,O_,O_,O_,O_,O_]) rfl 20 hP32 rfl hK32 ?_
      refine dT (i := 22) (listed' := #[I_,I_,I_,I_,I_,I_,I_,I_,I_,I_,I_,I_,I_,I_,I_,I_,I_,I_,I_,I_,I_,I_,I_,O_,O_,O_,O_,O_,O_,O_,O_,O_,O_,O_,O_,O_,O_,O_,O_,O_,O_,O_,O_]) rfl hP32 hK32 (fun wS hS => (r_pickT (v := .bool true) rfl rfl)) ?_
      refine dT (i := 23) (listed' := #[I_,I_,I_,I_,I_,I_,I_,I_,I_,I_,I_,I_,I_,I_,I_,I_,I_,I_,I_,I_,I_,I_,I_,I_,O_,O_,O_,O_,O_,O_,O_,O_,O_,O_,O_,O_,O_,O_,O_,O_,O_,O_,O_]) rfl hP32 hK32 (fun wS hS => (r_move (v := .bool true) rfl)) ?_
      refine dS (i := 24) (listed' := #[I_,I_,I_,I_,I_,I_,I_,I_,I_,I_,I_,I_,I_,I_,I_,I_,I_,I_,I_,I_,I_,I_,I_,I_,I_,O_,O_,O_,O_,O_,O_,O_,O_,O_,O_,O_,O_,O_,O_,O_,O_,O_,O_]) rfl 35 hP32 rfl hK32 ?_
      refine dS (i := 25) (listed' := #[I_,I_,I_,I_,I_,I_,I_,I_,I_,I_,I_,I_,I_,I_,I_,I_,I_,I_,I_,I_,I_,I_,I_,I_,I_,I_,O_,O_,O_,O_,O_,O_,O_,O_,O_,O_,O_,O_,O_,O_,O_,O_,O_]) rfl 35 hP32 rfl hK32 ?_
      refine dS (i := 26) (listed' := #[I_,I_,I_,I_,I_,I_,I_,I_,I_,I_,I_,I_,I_,I_,I_,I_,I_,I_,I_,I_,I_,I_,I_,I_,I_,I_,I_,O_,O_,O_,O_,O_,O_,O_,O_,O_,O_,O_,O_,O_,O_,O_,O_]) rfl 35 hP32 rfl hK32 ?_
      refine dT (i := 27) (listed' := #[I_,I_,I_,I_,I_,I_,I_,I_,I_,I_,I_,I_,I_,I_,I_,I_,I_,I_,I_,I_,I_,I_,I_,I_,I_,I_,I_,I_,O_,O_,O_,O_,O_,O_,O_,O_,O_,O_,O_,O_,O_,O_,O_]) rfl hP32 hK32 (fun wS hS => (r_pickT (v := .bool true) rfl rfl)) ?_
      refine dT (i := 28) (listed' := #[I_,I_,I_,I_,I_,I_,I_,I_,I_,I_,I_,I_,I_,I_,I_,I_,I_,I_,I_,I_,I_,I_,I_,I_,I_,I_,I_,I_,I_,O_,O_,O_,O_,O_,O_,O_,O_,O_,O_,O_,O_,O_,O_]) rfl hP32 hK32 (fun wS hS => (r_move (v := .bool true) rfl)) ?_
      refine dS (i := 29) (listed' := #[I_,I_,I_,I_,I_,I_,I_,I_,I_,I_,I_,I_,I_,I_,I_,I_,I_,I_,I_,I_,I_,I_,I_,I_,I_,I_,I_,I_,I_,I_,O_,O_,O_,O_,O_,O_,O_,O_,O_,O_,O_,O_,O_]) rfl 40 hP32 rfl hK32 ?_
      refine dS (i := 30) (listed' := #[I_,I_,I_,I_,I_,I_,I_,I_,I_,I_,I_,I_,I_,I_,I_,I_,I_,I_,I_,I_,I_,I_,I_,I_,I_,I_,I_,I_,I_,I_,I_,O_,O_,O_,O_,O_,O_,O_,O_,O_,O_,O_,O_]) rfl 40 hP32 rfl hK32 ?_
      refine dS (i := 31) (listed' := #[I_,I_,I_,I_,I_,I_,I_,I_,I_,I_,I_,I_,I_,I_,I_,I_,I_,I_,I_,I_,I_,I_,I_,I_,I_,I_,I_,I_,I_,I_,I_,I_,O_,O_,O_,O_,O_,O_,O_,O_,O_,O_,O_]) rfl 40 hP32 rfl hK32 ?_
      refine dT (i := 32) (listed' := #[I_,I_,I_,I_,I_,I_,I_,I_,I_,I_,I_,I_,I_,I_,I_,I_,I_,I_,I_,I_,I_,I_,I_,I_,I_,I_,I_,I_,I_,I_,I_,I_,I_,O_,O_,O_,O_,O_,O_,O_,O_,O_,O_]) rfl hP32 hK32 (fun wS hS => (r_pickT (v := .bool true) rfl rfl)) ?_
      refine dT (i := 33) (listed' := #[I_,I_,I_,I_,I_,I_,I_,I_,I_,I_,I_,I_,I_,I_,I_,I_,I_,I_,I_,I_,I_,I_,I_,I_,I_,I_,I_,I_,I_,I_,I_,I_,I_,I_,O_,O_,O_,O_,O_,O_,O_,O_,O_]) rfl hP32 hK32 (fun wS hS => (r_move (v := .bool true) rfl)) ?_
      refine dS (i := 34) (listed' := #[I_,I_,I_,I_,I_,I_,I_,I_,I_,I_,I_,I_,I_,I_,I_,I_,I_,I_,I_,I_,I_,I_,I_,I_,I_,I_,I_,I_,I_,I_,I_,I_,I_,I_,I_,O_,O_,O_,O_,O_,O_,O_,O_]) rfl 45 hP32 rfl hK32 ?_
      refine dS (i := 35) (listed' := #[I_,I_,I_,I_,I_,I_,I_,I_,I_,I_,I_,I_,I_,I_,I_,I_,I_,I_,I_,I_,I_,I_,I_,I_,I_,I_,I_,I_,I_,I_,I_,I_,I_,I_,I_,I_,O_,O_,O_,O_,O_,O_,O_]) rfl 45 hP32 rfl hK32 ?_
      refine dS (i := 36) (listed' := #[I_,I_,I_,I_,I_,I_,I_,I_,I_,I_,I_,I_,I_,I_,I_,I_,I_,I_,I_,I_,I_,I_,I_,I_,I_,I_,I_,I_,I_,I_,I_,I_,I_,I_,I_,I_,I_,O_,O_,O_,O_,O_,O_]) rfl 45 hP32 rfl hK32 ?_
      refine dT (i := 37) (listed' := #[I_,I_,I_,I_,I_,I_,I_,I_,I_,I_,I_,I_,I_,I_,I_,I_,I_,I_,I_,I_,I_,I_,I_,I_,I_,I_,I_,I_,I_,I_,I_,I_,I_,I_,I_,I_,I_,I_,O_,O_,O_,O_,O_]) rfl hP32 hK32 (fun wS hS => (r_pickT (v := .bool true) rfl rfl)) ?_
      refine dT (i := 38) (listed' := #[I_,I_,I_,I_,I_,I_,I_,I_,I_,I_,I_,I_,I_,I_,I_,I_,I_,I_,I_,I_,I_,I_,I_,I_,I_,I_,I_,I_,I_,I_,I_,I_,I_,I_,I_,I_,I_,I_,I_,O_,O_,O_,O_]) rfl hP32 hK32 (fun wS hS => (r_move (v := .bool true) rfl)) ?_
      refine dS (i := 39) (listed' := #[I_,I_,I_,I_,I_,I_,I_,I_,I_,I_,I_,I_,I_,I_,I_,I_,I_,I_,I_,I_,I_,I_,I_,I_,I_,I_,I_,I_,I_,I_,I_,I_,I_,I_,I_,I_,I_,I_,I_,I_,O_,O_,O_]) rfl 50 hP32 rfl hK32 ?_
      refine dS (i := 40) (listed' := #[I_,I_,I_,I_,I_,I_,I_,I_,I_,I_,I_,I_,I_,I_,I_,I_,I_,I_,I_,I_,I_,I_,I_,I_,I_,I_,I_,I_,I_,I_,I_,I_,I_,I_,I_,I_,I_,I_,I_,I_,I_,O_,O_]) rfl 50 hP32 rfl hK32 ?_
      refine dS (i := 41) (listed' := #[I_,I_,I_,I_,I_,I_,I_,I_,I_,I_,I_,I_,I_,I_,I_,I_,I_,I_,I_,I_,I_,I_,I_,I_,I_,I_,I_,I_,I_,I_,I_,I_,I_,I_,I_,I_,I_,I_,I_,I_,I_,I_,O_]) rfl 50 hP32 rfl hK32 ?_
      refine dT (i := 42) (listed' := #[I_,I_,I_,I_,I_,I_,I_,I_,I_,I_,I_,I_,I_,I_,I_,I_,I_,I_,I_,I_,I_,I_,I_,I_,I_,I_,I_,I_,I_,I_,I_,I_,I_,I_,I_,I_,I_,I_,I_,I_,I_,I_,I_]) rfl hP32 hK32 (fun wS hS => (r_pickT (v := .bool true) rfl rfl)) ?_
      refine d_done (by kernel_rfl) ?_
      refine c_next ?_
      refine c_condT rfl ?_
      refine c_seq ?_
      refine c_reg ?_
      refine sv (r_assign (v := .bool false) rfl) ?_
      refine s_nil ?_
      refine c_next ?_
      refine c_ret ?_
      refine r_block ?_
      refine r_then ?_
      refine r_then ?_
      refine r_block ?_
      refine r_then ?_
      replace h := crossE h hyl19
      refine e_1 (v := .bool false) Try.results38 rfl ?_
      obtain ⟨hO33, e33⟩ := hO31.drop1
      rw [← Option.some.inj h]
      exact ⟨rfl, hO33, (e19.trans (e20.trans (e25.trans (e28.trans (e31.trans e33)))))⟩
    replace h := iF (Int.not_lt.2 h14) h
    refine dT (i := 3) (listed' := #[I_,I_,I_,I_,O_,O_,O_,O_,O_,O_,O_,O_,O_,O_,O_,O_,O_,O_,O_,O_,O_,O_,O_,O_,O_,O_,O_,O_,O_,O_,O_,O_,O_,O_,O_,O_,O_,O_,O_,O_,O_,O_,O_]) rfl hP32 hK32 (fun wS hS => (r_move (v := .bool false) rfl)) ?_
    refine dG (i := 4) (listed' := #[I_,I_,I_,I_,I_,O_,O_,O_,O_,O_,O_,O_,O_,O_,O_,O_,O_,O_,O_,O_,O_,O_,O_,O_,O_,O_,O_,O_,O_,O_,O_,O_,O_,O_,O_,O_,O_,O_,O_,O_,O_,O_,O_]) rfl 15 hP32 rfl hK32 (fun wS hS => (r_fieldAddr Try.underlying56 rfl I3 (by decide) rfl)) ?_
    refine dG (i := 5) (listed' := #[I_,I_,I_,I_,I_,I_,O_,O_,O_,O_,O_,O_,O_,O_,O_,O_,O_,O_,O_,O_,O_,O_,O_,O_,O_,O_,O_,O_,O_,O_,O_,O_,O_,O_,O_,O_,O_,O_,O_,O_,O_,O_,O_]) rfl 15 hP32 rfl hK32 (fun wS hS => (r_load1 (v := .int _ _) Try.underlying3 rfl rfl (cellB (hS.own.get (i := 0) rfl) rfl rfl))) ?_
    refine dt_geqG (i := 6) (listed' := #[I_,I_,I_,I_,I_,I_,I_,O_,O_,O_,O_,O_,O_,O_,O_,O_,O_,O_,O_,O_,O_,O_,O_,O_,O_,O_,O_,O_,O_,O_,O_,O_,O_,O_,O_,O_,O_,O_,O_,O_,O_,O_,O_]) (by rfl) (by kernel_rfl) (by rfl) hP32.u 15 (by rfl) rfl hK32 rfl rfl (fun h18 => ?_) (fun h18 => ?_)
    · replace h := iT h18 h
      refine dT (i := 7) (listed' := #[I_,I_,I_,I_,I_,I_,I_,I_,O_,O_,O_,O_,O_,O_,O_,O_,O_,O_,O_,O_,O_,O_,O_,O_,O_,O_,O_,O_,O_,O_,O_,O_,O_,O_,O_,O_,O_,O_,O_,O_,O_,O_,O_]) rfl hP32 hK32 (fun wS hS => (r_pickF (v := .bool true) rfl rfl)) ?_
      refine dT (i := 8) (listed' := #[I_,I_,I_,I_,I_,I_,I_,I_,I_,O_,O_,O_,O_,O_,O_,O_,O_,O_,O_,O_,O_,O_,O_,O_,O_,O_,O_,O_,O_,O_,O_,O_,O_,O_,O_,O_,O_,O_,O_,O_,O_,O_,O_]) rfl hP32 hK32 (fun wS hS => (r_move (v := .bool true) rfl)) ?_
      refine dS (i := 9) (listed' := #[I_,I_,I_,I_,I_,I_,I_,I_,I_,I_,O_,O_,O_,O_,O_,O_,O_,O_,O_,O_,O_,O_,O_,O_,O_,O_,O_,O_,O_,O_,O_,O_,O_,O_,O_,O_,O_,O_,O_,O_,O_,O_,O_]) rfl 20 hP32 rfl hK32 ?_
      refine dS (i := 10) (listed' := #[I_,I_,I_,I_,I_,I_,I_,I_,I_,I_,I_,O_,O_,O_,O_,O_,O_,O_,O_,O_,O_,O_,O_,O_,O_,O_,O_,O_,O_,O_,O_,O_,O_,O_,O_,O_,O_,O_,O_,O_,O_,O_,O_]) rfl 20 hP32 rfl hK32 ?_
      refine dS (i := 11) (listed' := #[I_,I_,I_,I_,I_,I_,I_,I_,I_,I_,I_,I_,O_,O_,O_,O_,O_,O_,O_,O_,O_,O_,O_,O_,O_,O_,O_,O_,O_,O_,O_,O_,O_,O_,O_,O_,O_,O_,O_,O_,O_,O_,O_]) rfl 20 hP32 rfl hK32 ?_
      refine dU (i := 12) (listed' := #[I_,I_,I_,I_,I_,I_,I_,I_,I_,I_,I_,I_,I_,O_,O_,O_,O_,O_,O_,O_,O_,O_,O_,O_,O_,O_,O_,O_,O_,O_,O_,O_,O_,O_,O_,O_,O_,O_,O_,O_,O_,O_,O_]) rfl 23 hP32 hK32 ?_
      refine dU (i := 13) (listed' := #[I_,I_,I_,I_,I_,I_,I_,I_,I_,I_,I_,I_,I_,I_,O_,O_,O_,O_,O_,O_,O_,O_,O_,O_,O_,O_,O_,O_,O_,O_,O_,O_,O_,O_,O_,O_,O_,O_,O_,O_,O_,O_,O_]) rfl 23 hP32 hK32 ?_
      refine dU (i := 14) (listed' := #[I_,I_,I_,I_,I_,I_,I_,I_,I_,I_,I_,I_,I_,I_,I_,O_,O_,O_,O_,O_,O_,O_,O_,O_,O_,O_,O_,O_,O_,O_,O_,O_,O_,O_,O_,O_,O_,O_,O_,O_,O_,O_,O_]) rfl 23 hP32 hK32 ?_
      refine dU (i := 15) (listed' := #[I_,I_,I_,I_,I_,I_,I_,I_,I_,I_,I_,I_,I_,I_,I_,I_,O_,O_,O_,O_,O_,O_,O_,O_,O_,O_,O_,O_,O_,O_,O_,O_,O_,O_,O_,O_,O_,O_,O_,O_,O_,O_,O_]) rfl 23 hP32 hK32 ?_
      refine dU (i := 16) (listed' := #[I_,I_,I_,I_,I_,I_,I_,I_,I_,I_,I_,I_,I_,I_,I_,I_,I_,O_,O_,O_,O_,O_,O_,O_,O_,O_,O_,O_,O_,O_,O_,O_,O_,O_,O_,O_,O_,O_,O_,O_,O_,O_,O_]) rfl 23 hP32 hK32 ?_
      refine dU (i := 17) (listed' := #[I_,I_,I_,I_,I_,I_,I_,I_,I_,I_,I_,I_,I_,I_,I_,I_,I_,I_,O_,O_,O_,O_,O_,O_,O_,O_,O_,O_,O_,O_,O_,O_,O_,O_,O_,O_,O_,O_,O_,O_,O_,O_,O_]) rfl 23 hP32 hK32 ?_
      refine dU (i := 18) (listed' := #[I_,I_,I_,I_,I_,I_,I_,I_,I_,I_,I_,I_,I_,I_,I_,I_,I_,I_,I_,O_,O_,O_,O_,O_,O_,O_,O_,O_,O_,O_,O_,O_,O_,O_,O_,O_,O_,O_,O_,O_,O_,O_,O_]) rfl 23 hP32 hK32 ?_
      refine dU (i := 19) (listed' := #[I_,I_,I_,I_,I_,I_,I_,I_,I_,I_,I_,I_,I_,I_,I_,I_,I_,I_,I_,I_,O_,O_,O_,O_,O_,O_,O_,O_,O_,O_,O_,O_,O_,O_,O_,O_,O_,O_,O_,O_,O_,O_,O_]) rfl 23 hP32 hK32 ?_
      refine dU (i := 20) (listed' := #[I_,I_,I_,I_,I_,I_,I_,I_,I_,I_,I_,I_,I_,I_,I_,I_,I_,I_,I_,I_,I_,O_,O_,O_,O_,O_,O_,O_,O_,O_,O_,O_,O_,O_,O_,O_,O_,O_,O_,O_,O_,O_,O_]) rfl 23 hP32 hK32 ?_
      refine dS (i := 21) (listed' := #[I_,I_,I_,I_,I_,I_,I_,I_,I_,I_,I_,I_,I_,I_,I_,I_,I_,I_,I_,I_,I_,I_,O_,O_,O_,O_,O_,O_,O_,O_,O_,O_,O_,O_,O_,O_,O_,O_,O_,O_,O_,O_,O_]) rfl 20 hP32 rfl hK32 ?_
      refine dT (i := 22) (listed' := #[I_,I_,I_,I_,I_,I_,I_,I_,I_,I_,I_,I_,I_,I_,I_,I_,I_,I_,I_,I_,I_,I_,I_,O_,O_,O_,O_,O_,O_,O_,O_,O_,O_,O_,O_,O_,O_,O_,O_,O_,O_,O_,O_]) rfl hP32 hK32 (fun wS hS => (r_pickT (v := .bool true) rfl rfl)) ?_
      refine dT (i := 23) (listed' := #[I_,I_,I_,I_,I_,I_,I_,I_,I_,I_,I_,I_,I_,I_,I_,I_,I_,I_,I_,I_,I_,I_,I_,I_,O_,O_,O_,O_,O_,O_,O_,O_,O_,O_,O_,O_,O_,O_,O_,O_,O_,O_,O_]) rfl hP32 hK32 (fun wS hS => (r_move (v := .bool true) rfl)) ?_
      refine dS (i := 24) (listed' := #[I_,I_,I_,I_,I_,I_,I_,I_,I_,I_,I_,I_,I_,I_,I_,I_,I_,I_,I_,I_,I_,I_,I_,I_,I_,O_,O_,O_,O_,O_,O_,O_,O_,O_,O_,O_,O_,O_,O_,O_,O_,O_,O_]) rfl 35 hP32 rfl hK32 ?_
      refine dS (i := 25) (listed' := #[I_,I_,I_,I_,I_,I_,I_,I_,I_,I_,I_,I_,I_,I_,I_,I_,I_,I_,I_,I_,I_,I_,I_,I_,I_,I_,O_,O_,O_,O_,O_,O_,O_,O_,O_,O_,O_,O_,O_,O_,O_,O_,O_]) rfl 35 hP32 rfl hK32 ?_
      refine dS (i := 26) (listed' := #[I_,I_,I_,I_,I_,I_,I_,I_,I_,I_,I_,I_,I_,I_,I_,I_,I_,I_,I_,I_,I_,I_,I_,I_,I_,I_,I_,O_,O_,O_,O_,O_,O_,O_,O_,O_,O_,O_,O_,O_,O_,O_,O_]) rfl 35 hP32 rfl hK32 ?_
      refine dT (i := 27) (listed' := #[I_,I_,I_,I_,I_,I_,I_,I_,I_,I_,I_,I_,I_,I_,I_,I_,I_,I_,I_,I_,I_,I_,I_,I_,I_,I_,I_,I_,O_,O_,O_,O_,O_,O_,O_,O_,O_,O_,O_,O_,O_,O_,O_]) rfl hP32 hK32 (fun wS hS => (r_pickT (v := .bool true) rfl rfl)) ?_
      refine dT (i := 28) (listed' := #[I_,I_,I_,I_,I_,I_,I_,I_,I_,I_,I_,I_,I_,I_,I_,I_,I_,I_,I_,I_,I_,I_,I_,I_,I_,I_,I_,I_,I_,O_,O_,O_,O_,O_,O_,O_,O_,O_,O_,O_,O_,O_,O_]) rfl hP32 hK32 (fun wS hS => (r_move (v := .bool true) rfl)) ?_
      refine dS (i := 29) (listed' := #[I_,I_,I_,I_,I_,I_,I_,I_,I_,I_,I_,I_,I_,I_,I_,I_,I_,I_,I_,I_,I_,I_,I_,I_,I_,I_,I_,I_,I_,I_,O_,O_,O_,O_,O_,O_,O_,O_,O_,O_,O_,O_,O_]) rfl 40 hP32 rfl hK32 ?_
      refine dS (i := 30) (listed' := #[I_,I_,I_,I_,I_,I_,I_,I_,I_,I_,I_,I_,I_,I_,I_,I_,I_,I_,I_,I_,I_,I_,I_,I_,I_,I_,I_,I_,I_,I_,I_,O_,O_,O_,O_,O_,O_,O_,O_,O_,O_,O_,O_]) rfl 40 hP32 rfl hK32 ?_
      refine dS (i := 31) (listed' := #[I_,I_,I_,I_,I_,I_,I_,I_,I_,I_,I_,I_,I_,I_,I_,I_,I_,I_,I_,I_,I_,I_,I_,I_,I_,I_,I_,I_,I_,I_,I_,I_,O_,O_,O_,O_,O_,O_,O_,O_,O_,O_,O_]) rfl 40 hP32 rfl hK32 ?_
      refine dT (i := 32) (listed' := #[I_,I_,I_,I_,I_,I_,I_,I_,I_,I_,I_,I_,I_,I_,I_,I_,I_,I_,I_,I_,I_,I_,I_,I_,I_,I_,I_,I_,I_,I_,I_,I_,I_,O_,O_,O_,O_,O_,O_,O_,O_,O_,O_]) rfl hP32 hK32 (fun wS hS => (r_pickT (v := .bool true) rfl rfl)) ?_
      refine dT (i := 33) (listed' := #[I_,I_,I_,I_,I_,I_,I_,I_,I_,I_,I_,I_,I_,I_,I_,I_,I_,I_,I_,I_,I_,I_,I_,I_,I_,I_,I_,I_,I_,I_,I_,I_,I_,I_,O_,O_,O_,O_,O_,O_,O_,O_,O_]) rfl hP32 hK32 (fun wS hS => (r_move (v := .bool true) rfl)) ?_
      refine dS (i := 34) (listed' := #[I_,I_,I_,I_,I_,I_,I_,I_,I_,I_,I_,I_,I_,I_,I_,I_,I_,I_,I_,I_,I_,I_,I_,I_,I_,I_,I_,I_,I_,I_,I_,I_,I_,I_,I_,O_,O_,O_,O_,O_,O_,O_,O_]) rfl 45 hP32 rfl hK32 ?_
      refine dS (i := 35) (listed' := #[I_,I_,I_,I_,I_,I_,I_,I_,I_,I_,I_,I_,I_,I_,I_,I_,I_,I_,I_,I_,I_,I_,I_,I_,I_,I_,I_,I_,I_,I_,I_,I_,I_,I_,I_,I_,O_,O_,O_,O_,O_,O_,O_]) rfl 45 hP32 rfl hK32 ?_
      refine dS (i := 36) (listed' := #[I_,I_,I_,I_,I_,I_,I_,I_,I_,I_,I_,I_,I_,I_,I_,I_,I_,I_,I_,I_,I_,I_,I_,I_,I_,I_,I_,I_,I_,I_,I_,I_,I_,I_,I_,I_,I_,O_,O_,O_,O_,O_,O_]) rfl 45 hP32 rfl hK32 ?_
      refine dT (i := 37) (listed' := #[I_,I_,I_,I_,I_,I_,I_,I_,I_,I_,I_,I_,I_,I_,I_,I_,I_,I_,I_,I_,I_,I_,I_,I_,I_,I_,I_,I_,I_,I_,I_,I_,I_,I_,I_,I_,I_,I_,O_,O_,O_,O_,O_]) rfl hP32 hK32 (fun wS hS => (r_pickT (v := .bool true) rfl rfl)) ?_
      refine dT (i := 38) (listed' := #[I_,I_,I_,I_,I_,I_,I_,I_,I_,I_,I_,I_,I_,I_,I_,I_,I_,I_,I_,I_,I_,I_,I_,I_,I_,I_,I_,I_,I_,I_,I_,I_,I_,I_,I_,I_,I_,I_,I_,O_,O_,O_,O_]) rfl hP32 hK32 (fun wS hS => (r_move (v := .bool true) rfl)) ?_
      refine dS (i := 39) (listed' := #[I_,I_,I_,I_,I_,I_,I_,I_,I_,I_,I_,I_,I_,I_,I_,I_,I_,I_,I_,I_,I_,I_,I_,I_,I_,I_,I_,I_,I_,I_,I_,I_,I_,I_,I_,I_,I_,I_,I_,I_,O_,O_,O_]) rfl 50 hP32 rfl hK32 ?_
      refine dS (i := 40) (listed' := #[I_,I_,I_,I_,I_,I_,I_,I_,I_,I_,I_,I_,I_,I_,I_,I_,I_,I_,I_,I_,I_,I_,I_,I_,I_,I_,I_,I_,I_,I_,I_,I_,I_,I_,I_,I_,I_,I_,I_,I_,I_,O_,O_]) rfl 50 hP32 rfl hK32 ?_
      refine dS (i := 41) (listed' := #[I_,I_,I_,I_,I_,I_,I_,I_,I_,I_,I_,I_,I_,I_,I_,I_,I_,I_,I_,I_,I_,I_,I_,I_,I_,I_,I_,I_,I_,I_,I_,I_,I_,I_,I_,I_,I_,I_,I_,I_,I_,I_,O_]) rfl 50 hP32 rfl hK32 ?_
      refine dT (i := 42) (listed' := #[I_,I_,I_,I_,I_,I_,I_,I_,I_,I_,I_,I_,I_,I_,I_,I_,I_,I_,I_,I_,I_,I_,I_,I_,I_,I_,I_,I_,I_,I_,I_,I_,I_,I_,I_,I_,I_,I_,I_,I_,I_,I_,I_]) rfl hP32 hK32 (fun wS hS => (r_pickT (v := .bool true) rfl rfl)) ?_
      refine d_done (by kernel_rfl) ?_
      refine c_next ?_
      refine c_condT rfl ?_
      refine c_seq ?_
      refine c_reg ?_
      refine sv (r_assign (v := .bool false) rfl) ?_
      refine s_nil ?_
      refine c_next ?_
      refine c_ret ?_
      refine r_block ?_
      refine r_then ?_
      refine r_then ?_
      refine r_block ?_
      refine r_then ?_
      replace h := crossE h hyl19
      refine e_1 (v := .bool false) Try.results38 rfl ?_
      obtain ⟨hO34, e34⟩ := hO31.drop1
      rw [← Option.some.inj h]
      exact ⟨rfl, hO34, (e19.trans (e20.trans (e25.trans (e28.trans (e31.trans e34)))))⟩
    replace h := iF (Int.not_le.2 h18) h
    refine dT (i := 7) (listed' := #[I_,I_,I_,I_,I_,I_,I_,I_,O_,O_,O_,O_,O_,O_,O_,O_,O_,O_,O_,O_,O_,O_,O_,O_,O_,O_,O_,O_,O_,O_,O_,O_,O_,O_,O_,O_,O_,O_,O_,O_,O_,O_,O_]) rfl hP32 hK32 (fun wS hS => (r_pickF (v := .bool false) rfl rfl)) ?_
    refine dT (i := 8) (listed' := #[I_,I_,I_,I_,I_,I_,I_,I_,I_,O_,O_,O_,O_,O_,O_,O_,O_,O_,O_,O_,O_,O_,O_,O_,O_,O_,O_,O_,O_,O_,O_,O_,O_,O_,O_,O_,O_,O_,O_,O_,O_,O_,O_]) rfl hP32 hK32 (fun wS hS => (r_move (v := .bool false) rfl)) ?_
    refine dG (i := 9) (listed' := #[I_,I_,I_,I_,I_,I_,I_,I_,I_,I_,O_,O_,O_,O_,O_,O_,O_,O_,O_,O_,O_,O_,O_,O_,O_,O_,O_,O_,O_,O_,O_,O_,O_,O_,O_,O_,O_,O_,O_,O_,O_,O_,O_]) rfl 20 hP32 rfl hK32 (fun wS hS => (r_move (v := .int _ _) rfl)) ?_
    refine dt_gtrG (i := 10) (listed' := #[I_,I_,I_,I_,I_,I_,I_,I_,I_,I_,I_,O_,O_,O_,O_,O_,O_,O_,O_,O_,O_,O_,O_,O_,O_,O_,O_,O_,O_,O_,O_,O_,O_,O_,O_,O_,O_,O_,O_,O_,O_,O_,O_]) (by rfl) (by kernel_rfl) (by rfl) hP32.u 20 (by rfl) rfl hK32 rfl rfl (fun h22 => ?_) (fun h22 => ?_)
    · replace h := iT h22 h
      refine dG (i := 11) (listed' := #[I_,I_,I_,I_,I_,I_,I_,I_,I_,I_,I_,I_,O_,O_,O_,O_,O_,O_,O_,O_,O_,O_,O_,O_,O_,O_,O_,O_,O_,O_,O_,O_,O_,O_,O_,O_,O_,O_,O_,O_,O_,O_,O_]) rfl 20 hP32 rfl hK32 (fun wS hS => (r_move (v := .bool true) rfl)) ?_
      refine dG (i := 12) (listed' := #[I_,I_,I_,I_,I_,I_,I_,I_,I_,I_,I_,I_,I_,O_,O_,O_,O_,O_,O_,O_,O_,O_,O_,O_,O_,O_,O_,O_,O_,O_,O_,O_,O_,O_,O_,O_,O_,O_,O_,O_,O_,O_,O_]) rfl 23 hP32 rfl hK32 (fun wS hS => (r_fieldAddr Try.underlying56 rfl I3 (by decide) rfl)) ?_
      refine dG (i := 13) (listed' := #[I_,I_,I_,I_,I_,I_,I_,I_,I_,I_,I_,I_,I_,I_,O_,O_,O_,O_,O_,O_,O_,O_,O_,O_,O_,O_,O_,O_,O_,O_,O_,O_,O_,O_,O_,O_,O_,O_,O_,O_,O_,O_,O_]) rfl 23 hP32 rfl hK32 (fun wS hS => (r_load1 (v := .int _ _) Try.underlying3 rfl rfl (cellB (hS.own.get (i := 0) rfl) rfl rfl))) ?_
      refine dG (i := 14) (listed' := #[I_,I_,I_,I_,I_,I_,I_,I_,I_,I_,I_,I_,I_,I_,I_,O_,O_,O_,O_,O_,O_,O_,O_,O_,O_,O_,O_,O_,O_,O_,O_,O_,O_,O_,O_,O_,O_,O_,O_,O_,O_,O_,O_]) rfl 23 hP32 rfl hK32 (fun wS hS => (r_move (v := .slice _ _ _) rfl)) ?_
      refine dG (i := 15) (listed' := #[I_,I_,I_,I_,I_,I_,I_,I_,I_,I_,I_,I_,I_,I_,I_,I_,O_,O_,O_,O_,O_,O_,O_,O_,O_,O_,O_,O_,O_,O_,O_,O_,O_,O_,O_,O_,O_,O_,O_,O_,O_,O_,O_]) rfl 23 hP32 rfl hK32 (fun wS hS => (r_move (v := .int _ _) rfl)) ?_
      refine dG (i := 16) (listed' := #[I_,I_,I_,I_,I_,I_,I_,I_,I_,I_,I_,I_,I_,I_,I_,I_,I_,O_,O_,O_,O_,O_,O_,O_,O_,O_,O_,O_,O_,O_,O_,O_,O_,O_,O_,O_,O_,O_,O_,O_,O_,O_,O_]) rfl 23 hP32 rfl hK32 (fun wS hS => (r_subI (a := xl1_t7) (b := 1) rfl rfl)) ?_
      obtain ⟨y29, hy29, h⟩ := bindE h
      obtain ⟨ad29, had29, hk29⟩ := ix_known (e := e_roster_Device) (Rd.cs hR0p) e_roster_Device_len (by decide) hy29
      have hx29 : Value.slice aP0 mP0 cP0 = .slice (some ad29) mP0 cP0 := by rw [had29]
      refine dG (i := 17) (listed' := #[I_,I_,I_,I_,I_,I_,I_,I_,I_,I_,I_,I_,I_,I_,I_,I_,I_,I_,O_,O_,O_,O_,O_,O_,O_,O_,O_,O_,O_,O_,O_,O_,O_,O_,O_,O_,O_,O_,O_,O_,O_,O_,O_]) rfl 23 hP32 rfl hK32 (fun wS hS => (ra_idx (xs := x0) (i := (w64 (xl1_t7 - 1))) Try.underlying24 I56 (by exact hx29) (by rfl) hm0p hy29)) ?_
      refine dG (i := 18) (listed' := #[I_,I_,I_,I_,I_,I_,I_,I_,I_,I_,I_,I_,I_,I_,I_,I_,I_,I_,I_,O_,O_,O_,O_,O_,O_,O_,O_,O_,O_,O_,O_,O_,O_,O_,O_,O_,O_,O_,O_,O_,O_,O_,O_]) rfl 23 hP32 rfl hK32 (fun wS hS => (r_fieldAddr Try.underlying56 rfl I3 (by decide) rfl)) ?_
      refine dG (i := 19) (listed' := #[I_,I_,I_,I_,I_,I_,I_,I_,I_,I_,I_,I_,I_,I_,I_,I_,I_,I_,I_,I_,O_,O_,O_,O_,O_,O_,O_,O_,O_,O_,O_,O_,O_,O_,O_,O_,O_,O_,O_,O_,O_,O_,O_]) rfl 23 hP32 rfl hK32 (fun wS hS => (r_load1 (v := .int _ _) Try.underlying3 rfl rfl (cellP (hk29 _ (hR0p.kept hS)) 0 rfl))) ?_
      refine dt_leqG (i := 20) (listed' := #[I_,I_,I_,I_,I_,I_,I_,I_,I_,I_,I_,I_,I_,I_,I_,I_,I_,I_,I_,I_,I_,O_,O_,O_,O_,O_,O_,O_,O_,O_,O_,O_,O_,O_,O_,O_,O_,O_,O_,O_,O_,O_,O_]) (by rfl) (by kernel_rfl) (by rfl) hP32.u 23 (by rfl) rfl hK32 rfl rfl (fun h32 => ?_) (fun h32 => ?_)
      · replace h := iT h32 h
        refine dG (i := 21) (listed' := #[I_,I_,I_,I_,I_,I_,I_,I_,I_,I_,I_,I_,I_,I_,I_,I_,I_,I_,I_,I_,I_,I_,O_,O_,O_,O_,O_,O_,O_,O_,O_,O_,O_,O_,O_,O_,O_,O_,O_,O_,O_,O_,O_]) rfl 20 hP32 rfl hK32 (fun wS hS => (r_pickT (v := .bool true) rfl rfl)) ?_
        refine dT (i := 22) (listed' := #[I_,I_,I_,I_,I_,I_,I_,I_,I_,I_,I_,I_,I_,I_,I_,I_,I_,I_,I_,I_,I_,I_,I_,O_,O_,O_,O_,O_,O_,O_,O_,O_,O_,O_,O_,O_,O_,O_,O_,O_,O_,O_,O_]) rfl hP32 hK32 (fun wS hS => (r_pickF (v := .bool true) rfl rfl)) ?_
        refine dT (i := 23) (listed' := #[I_,I_,I_,I_,I_,I_,I_,I_,I_,I_,I_,I_,I_,I_,I_,I_,I_,I_,I_,I_,I_,I_,I_,I_,O_,O_,O_,O_,O_,O_,O_,O_,O_,O_,O_,O_,O_,O_,O_,O_,O_,O_,O_]) rfl hP32 hK32 (fun wS hS => (r_move (v := .bool true) rfl)) ?_
        refine dS (i := 24) (listed' := #[I_,I_,I_,I_,I_,I_,I_,I_,I_,I_,I_,I_,I_,I_,I_,I_,I_,I_,I_,I_,I_,I_,I_,I_,I_,O_,O_,O_,O_,O_,O_,O_,O_,O_,O_,O_,O_,O_,O_,O_,O_,O_,O_]) rfl 35 hP32 rfl hK32 ?_
        refine dS (i := 25) (listed' := #[I_,I_,I_,I_,I_,I_,I_,I_,I_,I_,I_,I_,I_,I_,I_,I_,I_,I_,I_,I_,I_,I_,I_,I_,I_,I_,O_,O_,O_,O_,O_,O_,O_,O_,O_,O_,O_,O_,O_,O_,O_,O_,O_]) rfl 35 hP32 rfl hK32 ?_
        refine dS (i := 26) (listed' := #[I_,I_,I_,I_,I_,I_,I_,I_,I_,I_,I_,I_,I_,I_,I_,I_,I_,I_,I_,I_,I_,I_,I_,I_,I_,I_,I_,O_,O_,O_,O_,O_,O_,O_,O_,O_,O_,O_,O_,O_,O_,O_,O_]) rfl 35 hP32 rfl hK32 ?_
        refine dT (i := 27) (listed' := #[I_,I_,I_,I_,I_,I_,I_,I_,I_,I_,I_,I_,I_,I_,I_,I_,I_,I_,I_,I_,I_,I_,I_,I_,I_,I_,I_,I_,O_,O_,O_,O_,O_,O_,O_,O_,O_,O_,O_,O_,O_,O_,O_]) rfl hP32 hK32 (fun wS hS => (r_pickT (v := .bool true) rfl rfl)) ?_
        refine dT (i := 28) (listed' := #[I_,I_,I_,I_,I_,I_,I_,I_,I_,I_,I_,I_,I_,I_,I_,I_,I_,I_,I_,I_,I_,I_,I_,I_,I_,I_,I_,I_,I_,O_,O_,O_,O_,O_,O_,O_,O_,O_,O_,O_,O_,O_,O_]) rfl hP32 hK32 (fun wS hS => (r_move (v := .bool true) rfl)) ?_
        refine dS (i := 29) (listed' := #[I_,I_,I_,I_,I_,I_,I_,I_,I_,I_,I_,I_,I_,I_,I_,I_,I_,I_,I_,I_,I_,I_,I_,I_,I_,I_,I_,I_,I_,I_,O_,O_,O_,O_,O_,O_,O_,O_,O_,O_,O_,O_,O_]) rfl 40 hP32 rfl hK32 ?_
        refine dS (i := 30) (listed' := #[I_,I_,I_,I_,I_,I_,I_,I_,I_,I_,I_,I_,I_,I_,I_,I_,I_,I_,I_,I_,I_,I_,I_,I_,I_,I_,I_,I_,I_,I_,I_,O_,O_,O_,O_,O_,O_,O_,O_,O_,O_,O_,O_]) rfl 40 hP32 rfl hK32 ?_
        refine dS (i := 31) (listed' := #[I_,I_,I_,I_,I_,I_,I_,I_,I_,I_,I_,I_,I_,I_,I_,I_,I_,I_,I_,I_,I_,I_,I_,I_,I_,I_,I_,I_,I_,I_,I_,I_,O_,O_,O_,O_,O_,O_,O_,O_,O_,O_,O_]) rfl 40 hP32 rfl hK32 ?_
        refine dT (i := 32) (listed' := #[I_,I_,I_,I_,I_,I_,I_,I_,I_,I_,I_,I_,I_,I_,I_,I_,I_,I_,I_,I_,I_,I_,I_,I_,I_,I_,I_,I_,I_,I_,I_,I_,I_,O_,O_,O_,O_,O_,O_,O_,O_,O_,O_]) rfl hP32 hK32 (fun wS hS => (r_pickT (v := .bool true) rfl rfl)) ?_
        refine dT (i := 33) (listed' := #[I_,I_,I_,I_,I_,I_,I_,I_,I_,I_,I_,I_,I_,I_,I_,I_,I_,I_,I_,I_,I_,I_,I_,I_,I_,I_,I_,I_,I_,I_,I_,I_,I_,I_,O_,O_,O_,O_,O_,O_,O_,O_,O_]) rfl hP32 hK32 (fun wS hS => (r_move (v := .bool true) rfl)) ?_
        refine dS (i := 34) (listed' := #[I_,I_,I_,I_,I_,I_,I_,I_,I_,I_,I_,I_,I_,I_,I_,I_,I_,I_,I_,I_,I_,I_,I_,I_,I_,I_,I_,I_,I_,I_,I_,I_,I_,I_,I_,O_,O_,O_,O_,O_,O_,O_,O_]) rfl 45 hP32 rfl hK32 ?_
        refine dS (i := 35) (listed' := #[I_,I_,I_,I_,I_,I_,I_,I_,I_,I_,I_,I_,I_,I_,I_,I_,I_,I_,I_,I_,I_,I_,I_,I_,I_,I_,I_,I_,I_,I_,I_,I_,I_,I_,I_,I_,O_,O_,O_,O_,O_,O_,O_]) rfl 45 hP32 rfl hK32 ?_
        refine dS (i := 36) (listed' := #[I_,I_,I_,I_,I_,I_,I_,I_,I_,I_,I_,I_,I_,I_,I_,I_,I_,I_,I_,I_,I_,I_,I_,I_,I_,I_,I_,I_,I_,I_,I_,I_,I_,I_,I_,I_,I_,O_,O_,O_,O_,O_,O_]) rfl 45 hP32 rfl hK32 ?_
        refine dT (i := 37) (listed' := #[I_,I_,I_,I_,I_,I_,I_,I_,I_,I_,I_,I_,I_,I_,I_,I_,I_,I_,I_,I_,I_,I_,I_,I_,I_,I_,I_,I_,I_,I_,I_,I_,I_,I_,I_,I_,I_,I_,O_,O_,O_,O_,O_]) rfl hP32 hK32 (fun wS hS => (r_pickT (v := .bool true) rfl rfl)) ?_
        refine dT (i := 38) (listed' := #[I_,I_,I_,I_,I_,I_,I_,I_,I_,I_,I_,I_,I_,I_,I_,I_,I_,I_,I_,I_,I_,I_,I_,I_,I_,I_,I_,I_,I_,I_,I_,I_,I_,I_,I_,I_,I_,I_,I_,O_,O_,O_,O_]) rfl hP32 hK32 (fun wS hS => (r_move (v := .bool true) rfl)) ?_
        refine dS (i := 39) (listed' := #[I_,I_,I_,I_,I_,I_,I_,I_,I_,I_,I_,I_,I_,I_,I_,I_,I_,I_,I_,I_,I_,I_,I_,I_,I_,I_,I_,I_,I_,I_,I_,I_,I_,I_,I_,I_,I_,I_,I_,I_,O_,O_,O_]) rfl 50 hP32 rfl hK32 ?_
        refine dS (i := 40) (listed' := #[I_,I_,I_,I_,I_,I_,I_,I_,I_,I_,I_,I_,I_,I_,I_,I_,I_,I_,I_,I_,I_,I_,I_,I_,I_,I_,I_,I_,I_,I_,I_,I_,I_,I_,I_,I_,I_,I_,I_,I_,I_,O_,O_]) rfl 50 hP32 rfl hK32 ?_
        refine dS (i := 41) (listed' := #[I_,I_,I_,I_,I_,I_,I_,I_,I_,I_,I_,I_,I_,I_,I_,I_,I_,I_,I_,I_,I_,I_,I_,I_,I_,I_,I_,I_,I_,I_,I_,I_,I_,I_,I_,I_,I_,I_,I_,I_,I_,I_,O_]) rfl 50 hP32 rfl hK32 ?_
        refine dT (i := 42) (listed' := #[I_,I_,I_,I_,I_,I_,I_,I_,I_,I_,I_,I_,I_,I_,I_,I_,I_,I_,I_,I_,I_,I_,I_,I_,I_,I_,I_,I_,I_,I_,I_,I_,I_,I_,I_,I_,I_,I_,I_,I_,I_,I_,I_]) rfl hP32 hK32 (fun wS hS => (r_pickT (v := .bool true) rfl rfl)) ?_
        refine d_done (by kernel_rfl) ?_
        refine c_next ?_
        refine c_condT rfl ?_
        refine c_seq ?_
        refine c_reg ?_
        refine sv (r_assign (v := .bool false) rfl) ?_
        refine s_nil ?_
        refine c_next ?_
        refine c_ret ?_
        refine r_block ?_
        refine r_then ?_
        refine r_then ?_
        refine r_block ?_
        refine r_then ?_
        replace h := crossE h hyl19
        refine e_1 (v := .bool false) Try.results38 rfl ?_
        obtain ⟨hO35, e35⟩ := hO31.drop1
        rw [← Option.some.inj h]
        exact ⟨rfl, hO35, (e19.trans (e20.trans (e25.trans (e28.trans (e31.trans e35)))))⟩
      replace h := iF (Int.not_le.2 h32) h
      refine dG (i := 21) (listed' := #[I_,I_,I_,I_,I_,I_,I_,I_,I_,I_,I_,I_,I_,I_,I_,I_,I_,I_,I_,I_,I_,I_,O_,O_,O_,O_,O_,O_,O_,O_,O_,O_,O_,O_,O_,O_,O_,O_,O_,O_,O_,O_,O_]) rfl 20 hP32 rfl hK32 (fun wS hS => (r_pickT (v := .bool false) rfl rfl)) ?_
      refine dT (i := 22) (listed' := #[I_,I_,I_,I_,I_,I_,I_,I_,I_,I_,I_,I_,I_,I_,I_,I_,I_,I_,I_,I_,I_,I_,I_,O_,O_,O_,O_,O_,O_,O_,O_,O_,O_,O_,O_,O_,O_,O_,O_,O_,O_,O_,O_]) rfl hP32 hK32 (fun wS hS => (r_pickF (v := .bool false) rfl rfl)) ?_
      refine dT (i := 23) (listed' := #[I_,I_,I_,I_,I_,I_,I_,I_,I_,I_,I_,I_,I_,I_,I_,I_,I_,I_,I_,I_,I_,I_,I_,I_,O_,O_,O_,O_,O_,O_,O_,O_,O_,O_,O_,O_,O_,O_,O_,O_,O_,O_,O_]) rfl hP32 hK32 (fun wS hS => (r_move (v := .bool false) rfl)) ?_
      refine dG (i := 24) (listed' := #[I_,I_,I_,I_,I_,I_,I_,I_,I_,I_,I_,I_,I_,I_,I_,I_,I_,I_,I_,I_,I_,I_,I_,I_,I_,O_,O_,O_,O_,O_,O_,O_,O_,O_,O_,O_,O_,O_,O_,O_,O_,O_,O_]) rfl 35 hP32 rfl hK32 (fun wS hS => (r_fieldAddr Try.underlying56 rfl I3 (by decide) rfl)) ?_
      refine dG (i := 25) (listed' := #[I_,I_,I_,I_,I_,I_,I_,I_,I_,I_,I_,I_,I_,I_,I_,I_,I_,I_,I_,I_,I_,I_,I_,I_,I_,I_,O_,O_,O_,O_,O_,O_,O_,O_,O_,O_,O_,O_,O_,O_,O_,O_,O_]) rfl 35 hP32 rfl hK32 (fun wS hS => (r_load1 (v := .int _ _) Try.underlying3 rfl rfl (cellB (hS.own.get (i := 0) rfl) rfl rfl))) ?_
      refine dt_lssG (i := 26) (listed' := #[I_,I_,I_,I_,I_,I_,I_,I_,I_,I_,I_,I_,I_,I_,I_,I_,I_,I_,I_,I_,I_,I_,I_,I_,I_,I_,I_,O_,O_,O_,O_,O_,O_,O_,O_,O_,O_,O_,O_,O_,O_,O_,O_]) (by rfl) (by kernel_rfl) (by rfl) hP32.u 35 (by rfl) rfl hK32 rfl rfl (fun h38 => ?_) (fun h38 => ?_)
      · replace h := iT h38 h
        refine dT (i := 27) (listed' := #[I_,I_,I_,I_,I_,I_,I_,I_,I_,I_,I_,I_,I_,I_,I_,I_,I_,I_,I_,I_,I_,I_,I_,I_,I_,I_,I_,I_,O_,O_,O_,O_,O_,O_,O_,O_,O_,O_,O_,O_,O_,O_,O_]) rfl hP32 hK32 (fun wS hS => (r_pickF (v := .bool true) rfl rfl)) ?_
        refine dT (i := 28) (listed' := #[I_,I_,I_,I_,I_,I_,I_,I_,I_,I_,I_,I_,I_,I_,I_,I_,I_,I_,I_,I_,I_,I_,I_,I_,I_,I_,I_,I_,I_,O_,O_,O_,O_,O_,O_,O_,O_,O_,O_,O_,O_,O_,O_]) rfl hP32 hK32 (fun wS hS => (r_move (v := .bool true) rfl)) ?_
        refine dS (i := 29) (listed' := #[I_,I_,I_,I_,I_,I_,I_,I_,I_,I_,I_,I_,I_,I_,I_,I_,I_,I_,I_,I_,I_,I_,I_,I_,I_,I_,I_,I_,I_,I_,O_,O_,O_,O_,O_,O_,O_,O_,O_,O_,O_,O_,O_]) rfl 40 hP32 rfl hK32 ?_
        refine dS (i := 30) (listed' := #[I_,I_,I_,I_,I_,I_,I_,I_,I_,I_,I_,I_,I_,I_,I_,I_,I_,I_,I_,I_,I_,I_,I_,I_,I_,I_,I_,I_,I_,I_,I_,O_,O_,O_,O_,O_,O_,O_,O_,O_,O_,O_,O_]) rfl 40 hP32 rfl hK32 ?_
        refine dS (i := 31) (listed' := #[I_,I_,I_,I_,I_,I_,I_,I_,I_,I_,I_,I_,I_,I_,I_,I_,I_,I_,I_,I_,I_,I_,I_,I_,I_,I_,I_,I_,I_,I_,I_,I_,O_,O_,O_,O_,O_,O_,O_,O_,O_,O_,O_]) rfl 40 hP32 rfl hK32 ?_
        refine dT (i := 32) (listed' := #[I_,I_,I_,I_,I_,I_,I_,I_,I_,I_,I_,I_,I_,I_,I_,I_,I_,I_,I_,I_,I_,I_,I_,I_,I_,I_,I_,I_,I_,I_,I_,I_,I_,O_,O_,O_,O_,O_,O_,O_,O_,O_,O_]) rfl hP32 hK32 (fun wS hS => (r_pickT (v := .bool true) rfl rfl)) ?_
        refine dT (i := 33) (listed' := #[I_,I_,I_,I_,I_,I_,I_,I_,I_,I_,I_,I_,I_,I_,I_,I_,I_,I_,I_,I_,I_,I_,I_,I_,I_,I_,I_,I_,I_,I_,I_,I_,I_,I_,O_,O_,O_,O_,O_,O_,O_,O_,O_]) rfl hP32 hK32 (fun wS hS => (r_move (v := .bool true) rfl)) ?_
        refine dS (i := 34) (listed' := #[I_,I_,I_,I_,I_,I_,I_,I_,I_,I_,I_,I_,I_,I_,I_,I_,I_,I_,I_,I_,I_,I_,I_,I_,I_,I_,I_,I_,I_,I_,I_,I_,I_,I_,I_,O_,O_,O_,O_,O_,O_,O_,O_]) rfl 45 hP32 rfl hK32 ?_
        refine dS (i := 35) (listed' := #[I_,I_,I_,I_,I_,I_,I_,I_,I_,I_,I_,I_,I_,I_,I_,I_,I_,I_,I_,I_,I_,I_,I_,I_,I_,I_,I_,I_,I_,I_,I_,I_,I_,I_,I_,I_,O_,O_,O_,O_,O_,O_,O_]) rfl 45 hP32 rfl hK32 ?_
        refine dS (i := 36) (listed' := #[I_,I_,I_,I_,I_,I_,I_,I_,I_,I_,I_,I_,I_,I_,I_,I_,I_,I_,I_,I_,I_,I_,I_,I_,I_,I_,I_,I_,I_,I_,I_,I_,I_,I_,I_,I_,I_,O_,O_,O_,O_,O_,O_]) rfl 45 hP32 rfl hK32 ?_
        refine dT (i := 37) (listed' := #[I_,I_,I_,I_,I_,I_,I_,I_,I_,I_,I_,I_,I_,I_,I_,I_,I_,I_,I_,I_,I_,I_,I_,I_,I_,I_,I_,I_,I_,I_,I_,I_,I_,I_,I_,I_,I_,I_,O_,O_,O_,O_,O_]) rfl hP32 hK32 (fun wS hS => (r_pickT (v := .bool true) rfl rfl)) ?_
        refine dT (i := 38) (listed' := #[I_,I_,I_,I_,I_,I_,I_,I_,I_,I_,I_,I_,I_,I_,I_,I_,I_,I_,I_,I_,I_,I_,I_,I_,I_,I_,I_,I_,I_,I_,I_,I_,I_,I_,I_,I_,I_,I_,I_,O_,O_,O_,O_]) rfl hP32 hK32 (fun wS hS => (r_move (v := .bool true) rfl)) ?_
        refine dS (i := 39) (listed' := #[I_,I_,I_,I_,I_,I_,I_,I_,I_,I_,I_,I_,I_,I_,I_,I_,I_,I_,I_,I_,I_,I_,I_,I_,I_,I_,I_,I_,I_,I_,I_,I_,I_,I_,I_,I_,I_,I_,I_,I_,O_,O_,O_]) rfl 50 hP32 rfl hK32 ?_
        refine dS (i := 40) (listed' := #[I_,I_,I_,I_,I_,I_,I_,I_,I_,I_,I_,I_,I_,I_,I_,I_,I_,I_,I_,I_,I_,I_,I_,I_,I_,I_,I_,I_,I_,I_,I_,I_,I_,I_,I_,I_,I_,I_,I_,I_,I_,O_,O_]) rfl 50 hP32 rfl hK32 ?_
        refine dS (i := 41) (listed' := #[I_,I_,I_,I_,I_,I_,I_,I_,I_,I_,I_,I_,I_,I_,I_,I_,I_,I_,I_,I_,I_,I_,I_,I_,I_,I_,I_,I_,I_,I_,I_,I_,I_,I_,I_,I_,I_,I_,I_,I_,I_,I_,O_]) rfl 50 hP32 rfl hK32 ?_
        refine dT (i := 42) (listed' := #[I_,I_,I_,I_,I_,I_,I_,I_,I_,I_,I_,I_,I_,I_,I_,I_,I_,I_,I_,I_,I_,I_,I_,I_,I_,I_,I_,I_,I_,I_,I_,I_,I_,I_,I_,I_,I_,I_,I_,I_,I_,I_,I_]) rfl hP32 hK32 (fun wS hS => (r_pickT (v := .bool true) rfl rfl)) ?_
        refine d_done (by kernel_rfl) ?_
        refine c_next ?_
        refine c_condT rfl ?_
        refine c_seq ?_
        refine c_reg ?_
        refine sv (r_assign (v := .bool false) rfl) ?_
        refine s_nil ?_
        refine c_next ?_
        refine c_ret ?_
        refine r_block ?_
        refine r_then ?_
        refine r_then ?_
        refine r_block ?_
        refine r_then ?_
        replace h := crossE h hyl19
        refine e_1 (v := .bool false) Try.results38 rfl ?_
        obtain ⟨hO36, e36⟩ := hO31.drop1
        rw [← Option.some.inj h]
        exact ⟨rfl, hO36, (e19.trans (e20.trans (e25.trans (e28.trans (e31.trans e36)))))⟩
      replace h := iF (Int.not_lt.2 h38) h
      refine dT (i := 27) (listed' := #[I_,I_,I_,I_,I_,I_,I_,I_,I_,I_,I_,I_,I_,I_,I_,I_,I_,I_,I_,I_,I_,I_,I_,I_,I_,I_,I_,I_,O_,O_,O_,O_,O_,O_,O_,O_,O_,O_,O_,O_,O_,O_,O_]) rfl hP32 hK32 (fun wS hS => (r_pickF (v := .bool false) rfl rfl)) ?_
      refine dT (i := 28) (listed' := #[I_,I_,I_,I_,I_,I_,I_,I_,I_,I_,I_,I_,I_,I_,I_,I_,I_,I_,I_,I_,I_,I_,I_,I_,I_,I_,I_,I_,I_,O_,O_,O_,O_,O_,O_,O_,O_,O_,O_,O_,O_,O_,O_]) rfl hP32 hK32 (fun wS hS => (r_move (v := .bool false) rfl)) ?_
      refine dG (i := 29) (listed' := #[I_,I_,I_,I_,I_,I_,I_,I_,I_,I_,I_,I_,I_,I_,I_,I_,I_,I_,I_,I_,I_,I_,I_,I_,I_,I_,I_,I_,I_,I_,O_,O_,O_,O_,O_,O_,O_,O_,O_,O_,O_,O_,O_]) rfl 40 hP32 rfl hK32 (fun wS hS => (r_fieldAddr Try.underlying56 rfl I3 (by decide) rfl)) ?_
      refine dG (i := 30) (listed' := #[I_,I_,I_,I_,I_,I_,I_,I_,I_,I_,I_,I_,I_,I_,I_,I_,I_,I_,I_,I_,I_,I_,I_,I_,I_,I_,I_,I_,I_,I_,I_,O_,O_,O_,O_,O_,O_,O_,O_,O_,O_,O_,O_]) rfl 40 hP32 rfl hK32 (fun wS hS => (r_load1 (v := .int _ _) Try.underlying3 rfl rfl (cellB (hS.own.get (i := 0) rfl) rfl rfl))) ?_
      refine dt_gtrG (i := 31) (listed' := #[I_,I_,I_,I_,I_,I_,I_,I_,I_,I_,I_,I_,I_,I_,I_,I_,I_,I_,I_,I_,I_,I_,I_,I_,I_,I_,I_,I_,I_,I_,I_,I_,O_,O_,O_,O_,O_,O_,O_,O_,O_,O_,O_]) (by rfl) (by kernel_rfl) (by rfl) hP32.u 40 (by rfl) rfl hK32 rfl rfl (fun h43 => ?_) (fun h43 => ?_)
      · replace h := iT h43 h
        refine dT (i := 32) (listed' := #[I_,I_,I_,I_,I_,I_,I_,I_,I_,I_,I_,I_,I_,I_,I_,I_,I_,I_,I_,I_,I_,I_,I_,I_,I_,I_,I_,I_,I_,I_,I_,I_,I_,O_,O_,O_,O_,O_,O_,O_,O_,O_,O_]) rfl hP32 hK32 (fun wS hS => (r_pickF (v := .bool true) rfl rfl)) ?_
        refine dT (i := 33) (listed' := #[I_,I_,I_,I_,I_,I_,I_,I_,I_,I_,I_,I_,I_,I_,I_,I_,I_,I_,I_,I_,I_,I_,I_,I_,I_,I_,I_,I_,I_,I_,I_,I_,I_,I_,O_,O_,O_,O_,O_,O_,O_,O_,O_]) rfl hP32 hK32 (fun wS hS => (r_move (v := .bool true) rfl)) ?_
        refine dS (i := 34) (listed' := #[I_,I_,I_,I_,I_,I_,I_,I_,I_,I_,I_,I_,I_,I_,I_,I_,I_,I_,I_,I_,I_,I_,I_,I_,I_,I_,I_,I_,I_,I_,I_,I_,I_,I_,I_,O_,O_,O_,O_,O_,O_,O_,O_]) rfl 45 hP32 rfl hK32 ?_
        refine dS (i := 35) (listed' := #[I_,I_,I_,I_,I_,I_,I_,I_,I_,I_,I_,I_,I_,I_,I_,I_,I_,I_,I_,I_,I_,I_,I_,I_,I_,I_,I_,I_,I_,I_,I_,I_,I_,I_,I_,I_,O_,O_,O_,O_,O_,O_,O_]) rfl 45 hP32 rfl hK32 ?_
        refine dS (i := 36) (listed' := #[I_,I_,I_,I_,I_,I_,I_,I_,I_,I_,I_,I_,I_,I_,I_,I_,I_,I_,I_,I_,I_,I_,I_,I_,I_,I_,I_,I_,I_,I_,I_,I_,I_,I_,I_,I_,I_,O_,O_,O_,O_,O_,O_]) rfl 45 hP32 rfl hK32 ?_
        refine dT (i := 37) (listed' := #[I_,I_,I_,I_,I_,I_,I_,I_,I_,I_,I_,I_,I_,I_,I_,I_,I_,I_,I_,I_,I_,I_,I_,I_,I_,I_,I_,I_,I_,I_,I_,I_,I_,I_,I_,I_,I_,I_,O_,O_,O_,O_,O_]) rfl hP32 hK32 (fun wS hS => (r_pickT (v := .bool true) rfl rfl)) ?_
        refine dT (i := 38) (listed' := #[I_,I_,I_,I_,I_,I_,I_,I_,I_,I_,I_,I_,I_,I_,I_,I_,I_,I_,I_,I_,I_,I_,I_,I_,I_,I_,I_,I_,I_,I_,I_,I_,I_,I_,I_,I_,I_,I_,I_,O_,O_,O_,O_]) rfl hP32 hK32 (fun wS hS => (r_move (v := .bool true) rfl)) ?_
        refine dS (i := 39) (listed' := #[I_,I_,I_,I_,I_,I_,I_,I_,I_,I_,I_,I_,I_,I_,I_,I_,I_,I_,I_,I_,I_,I_,I_,I_,I_,I_,I_,I_,I_,I_,I_,I_,I_,I_,I_,I_,I_,I_,I_,I_,O_,O_,O_]) rfl 50 hP32 rfl hK32 ?_
        refine dS (i := 40) (listed' := #[I_,I_,I_,I_,I_,I_,I_,I_,I_,I_,I_,I_,I_,I_,I_,I_,I_,I_,I_,I_,I_,I_,I_,I_,I_,I_,I_,I_,I_,I_,I_,I_,I_,I_,I_,I_,I_,I_,I_,I_,I_,O_,O_]) rfl 50 hP32 rfl hK32 ?_
        refine dS (i := 41) (listed' := #[I_,I_,I_,I_,I_,I_,I_,I_,I_,I_,I_,I_,I_,I_,I_,I_,I_,I_,I_,I_,I_,I_,I_,I_,I_,I_,I_,I_,I_,I_,I_,I_,I_,I_,I_,I_,I_,I_,I_,I_,I_,I_,O_]) rfl 50 hP32 rfl hK32 ?_
        refine dT (i := 42) (listed' := #[I_,I_,I_,I_,I_,I_,I_,I_,I_,I_,I_,I_,I_,I_,I_,I_,I_,I_,I_,I_,I_,I_,I_,I_,I_,I_,I_,I_,I_,I_,I_,I_,I_,I_,I_,I_,I_,I_,I_,I_,I_,I_,I_]) rfl hP32 hK32 (fun wS hS => (r_pickT (v := .bool true) rfl rfl)) ?_
        refine d_done (by kernel_rfl) ?_
        refine c_next ?_
        refine c_condT rfl ?_
        refine c_seq ?_
        refine c_reg ?_
        refine sv (r_assign (v := .bool false) rfl) ?_
        refine s_nil ?_
        refine c_next ?_
        refine c_ret ?_
        refine r_block ?_
        refine r_then ?_
        refine r_then ?_
        refine r_block ?_
        refine r_then ?_
        replace h := crossE h hyl19
        refine e_1 (v := .bool false) Try.results38 rfl ?_
        obtain ⟨hO37, e37⟩ := hO31.drop1
        rw [← Option.some.inj h]
        exact ⟨rfl, hO37, (e19.trans (e20.trans (e25.trans (e28.trans (e31.trans e37)))))⟩
      replace h := iF (Int.not_lt.2 h43) h
      refine dT (i := 32) (listed' := #[I_,I_,I_,I_,I_,I_,I_,I_,I_,I_,I_,I_,I_,I_,I_,I_,I_,I_,I_,I_,I_,I_,I_,I_,I_,I_,I_,I_,I_,I_,I_,I_,I_,O_,O_,O_,O_,O_,O_,O_,O_,O_,O_]) rfl hP32 hK32 (fun wS hS => (r_pickF (v := .bool false) rfl rfl)) ?_
      refine dT (i := 33) (listed' := #[I_,I_,I_,I_,I_,I_,I_,I_,I_,I_,I_,I_,I_,I_,I_,I_,I_,I_,I_,I_,I_,I_,I_,I_,I_,I_,I_,I_,I_,I_,I_,I_,I_,I_,O_,O_,O_,O_,O_,O_,O_,O_,O_]) rfl hP32 hK32 (fun wS hS => (r_move (v := .bool false) rfl)) ?_
      refine dG (i := 34) (listed' := #[I_,I_,I_,I_,I_,I_,I_,I_,I_,I_,I_,I_,I_,I_,I_,I_,I_,I_,I_,I_,I_,I_,I_,I_,I_,I_,I_,I_,I_,I_,I_,I_,I_,I_,I_,O_,O_,O_,O_,O_,O_,O_,O_]) rfl 45 hP32 rfl hK32 (fun wS hS => (r_fieldAddr Try.underlying56 rfl I3 (by decide) rfl)) ?_
      refine dG (i := 35) (listed' := #[I_,I_,I_,I_,I_,I_,I_,I_,I_,I_,I_,I_,I_,I_,I_,I_,I_,I_,I_,I_,I_,I_,I_,I_,I_,I_,I_,I_,I_,I_,I_,I_,I_,I_,I_,I_,O_,O_,O_,O_,O_,O_,O_]) rfl 45 hP32 rfl hK32 (fun wS hS => (r_load1 (v := .int _ _) Try.underlying3 rfl rfl (cellB (hS.own.get (i := 0) rfl) rfl rfl))) ?_
      refine dt_lssG (i := 36) (listed' := #[I_,I_,I_,I_,I_,I_,I_,I_,I_,I_,I_,I_,I_,I_,I_,I_,I_,I_,I_,I_,I_,I_,I_,I_,I_,I_,I_,I_,I_,I_,I_,I_,I_,I_,I_,I_,I_,O_,O_,O_,O_,O_,O_]) (by rfl) (by kernel_rfl) (by rfl) hP32.u 45 (by rfl) rfl hK32 rfl rfl (fun h48 => ?_) (fun h48 => ?_)
      · replace h := iT h48 h
        refine dT (i := 37) (listed' := #[I_,I_,I_,I_,I_,I_,I_,I_,I_,I_,I_,I_,I_,I_,I_,I_,I_,I_,I_,I_,I_,I_,I_,I_,I_,I_,I_,I_,I_,I_,I_,I_,I_,I_,I_,I_,I_,I_,O_,O_,O_,O_,O_]) rfl hP32 hK32 (fun wS hS => (r_pickF (v := .bool true) rfl rfl)) ?_
        refine dT (i := 38) (listed' := #[I_,I_,I_,I_,I_,I_,I_,I_,I_,I_,I_,I_,I_,I_,I_,I_,I_,I_,I_,I_,I_,I_,I_,I_,I_,I_,I_,I_,I_,I_,I_,I_,I_,I_,I_,I_,I_,I_,I_,O_,O_,O_,O_]) rfl hP32 hK32 (fun wS hS => (r_move (v := .bool true) rfl)) ?_
        refine dS (i := 39) (listed' := #[I_,I_,I_,I_,I_,I_,I_,I_,I_,I_,I_,I_,I_,I_,I_,I_,I_,I_,I_,I_,I_,I_,I_,I_,I_,I_,I_,I_,I_,I_,I_,I_,I_,I_,I_,I_,I_,I_,I_,I_,O_,O_,O_]) rfl 50 hP32 rfl hK32 ?_
        refine dS (i := 40) (listed' := #[I_,I_,I_,I_,I_,I_,I_,I_,I_,I_,I_,I_,I_,I_,I_,I_,I_,I_,I_,I_,I_,I_,I_,I_,I_,I_,I_,I_,I_,I_,I_,I_,I_,I_,I_,I_,I_,I_,I_,I_,I_,O_,O_]) rfl 50 hP32 rfl hK32 ?_
        refine dS (i := 41) (listed' := #[I_,I_,I_,I_,I_,I_,I_,I_,I_,I_,I_,I_,I_,I_,I_,I_,I_,I_,I_,I_,I_,I_,I_,I_,I_,I_,I_,I_,I_,I_,I_,I_,I_,I_,I_,I_,I_,I_,I_,I_,I_,I_,O_]) rfl 50 hP32 rfl hK32 ?_
        refine dT (i := 42) (listed' := #[I_,I_,I_,I_,I_,I_,I_,I_,I_,I_,I_,I_,I_,I_,I_,I_,I_,I_,I_,I_,I_,I_,I_,I_,I_,I_,I_,I_,I_,I_,I_,I_,I_,I_,I_,I_,I_,I_,I_,I_,I_,I_,I_]) rfl hP32 hK32 (fun wS hS => (r_pickT (v := .bool true) rfl rfl)) ?_
        refine d_done (by kernel_rfl) ?_
        refine c_next ?_
        refine c_condT rfl ?_
        refine c_seq ?_
        refine c_reg ?_
        refine sv (r_assign (v := .bool false) rfl) ?_
        refine s_nil ?_
        refine c_next ?_
        refine c_ret ?_
        refine r_block ?_
        refine r_then ?_
        refine r_then ?_
        refine r_block ?_
        refine r_then ?_
        replace h := crossE h hyl19
        refine e_1 (v := .bool false) Try.results38 rfl ?_
        obtain ⟨hO38, e38⟩ := hO31.drop1
        rw [← Option.some.inj h]
        exact ⟨rfl, hO38, (e19.trans (e20.trans (e25.trans (e28.trans (e31.trans e38)))))⟩
      replace h := iF (Int.not_lt.2 h48) h
      refine dT (i := 37) (listed' := #[I_,I_,I_,I_,I_,I_,I_,I_,I_,I_,I_,I_,I_,I_,I_,I_,I_,I_,I_,I_,I_,I_,I_,I_,I_,I_,I_,I_,I_,I_,I_,I_,I_,I_,I_,I_,I_,I_,O_,O_,O_,O_,O_]) rfl hP32 hK32 (fun wS hS => (r_pickF (v := .bool false) rfl rfl)) ?_
      refine dT (i := 38) (listed' := #[I_,I_,I_,I_,I_,I_,I_,I_,I_,I_,I_,I_,I_,I_,I_,I_,I_,I_,I_,I_,I_,I_,I_,I_,I_,I_,I_,I_,I_,I_,I_,I_,I_,I_,I_,I_,I_,I_,I_,O_,O_,O_,O_]) rfl hP32 hK32 (fun wS hS => (r_move (v := .bool false) rfl)) ?_
      refine dG (i := 39) (listed' := #[I_,I_,I_,I_,I_,I_,I_,I_,I_,I_,I_,I_,I_,I_,I_,I_,I_,I_,I_,I_,I_,I_,I_,I_,I_,I_,I_,I_,I_,I_,I_,I_,I_,I_,I_,I_,I_,I_,I_,I_,O_,O_,O_]) rfl 50 hP32 rfl hK32 (fun wS hS => (r_fieldAddr Try.underlying56 rfl I3 (by decide) rfl)) ?_
      refine dG (i := 40) (listed' := #[I_,I_,I_,I_,I_,I_,I_,I_,I_,I_,I_,I_,I_,I_,I_,I_,I_,I_,I_,I_,I_,I_,I_,I_,I_,I_,I_,I_,I_,I_,I_,I_,I_,I_,I_,I_,I_,I_,I_,I_,I_,O_,O_]) rfl 50 hP32 rfl hK32 (fun wS hS => (r_load1 (v := .int _ _) Try.underlying3 rfl rfl (cellB (hS.own.get (i := 0) rfl) rfl rfl))) ?_
      refine dt_gtrG (i := 41) (listed' := #[I_,I_,I_,I_,I_,I_,I_,I_,I_,I_,I_,I_,I_,I_,I_,I_,I_,I_,I_,I_,I_,I_,I_,I_,I_,I_,I_,I_,I_,I_,I_,I_,I_,I_,I_,I_,I_,I_,I_,I_,I_,I_,O_]) (by rfl) (by kernel_rfl) (by rfl) hP32.u 50 (by rfl) rfl hK32 rfl rfl (fun h53 => ?_) (fun h53 => ?_)
      · replace h := iT h53 h
        refine dT (i := 42) (listed' := #[I_,I_,I_,I_,I_,I_,I_,I_,I_,I_,I_,I_,I_,I_,I_,I_,I_,I_,I_,I_,I_,I_,I_,I_,I_,I_,I_,I_,I_,I_,I_,I_,I_,I_,I_,I_,I_,I_,I_,I_,I_,I_,I_]) rfl hP32 hK32 (fun wS hS => (r_pickF (v := .bool true) rfl rfl)) ?_
        refine d_done (by kernel_rfl) ?_
        refine c_next ?_
        refine c_condT rfl ?_
        refine c_seq ?_
        refine c_reg ?_
        refine sv (r_assign (v := .bool false) rfl) ?_
        refine s_nil ?_
        refine c_next ?_
        refine c_ret ?_
        refine r_block ?_
        refine r_then ?_
        refine r_then ?_
        refine r_block ?_
        refine r_then ?_
        replace h := crossE h hyl19
        refine e_1 (v := .bool false) Try.results38 rfl ?_
        obtain ⟨hO39, e39⟩ := hO31.drop1
        rw [← Option.some.inj h]
        exact ⟨rfl, hO39, (e19.trans (e20.trans (e25.trans (e28.trans (e31.trans e39)))))⟩
      replace h := iF (Int.not_lt.2 h53) h
      refine dT (i := 42) (listed' := #[I_,I_,I_,I_,I_,I_,I_,I_,I_,I_,I_,I_,I_,I_,I_,I_,I_,I_,I_,I_,I_,I_,I_,I_,I_,I_,I_,I_,I_,I_,I_,I_,I_,I_,I_,I_,I_,I_,I_,I_,I_,I_,I_]) rfl hP32 hK32 (fun wS hS => (r_pickF (v := .bool false) rfl rfl)) ?_
      refine d_done (by kernel_rfl) ?_
      refine c_next ?_
      refine c_condF rfl ?_
      refine c_skip ?_
      refine x_norm ?_
      refine c_next ?_
      refine c_reg ?_
      refine sv (r_addI (a := xl1_t7) (b := 1) rfl rfl) ?_
      refine sv (r_move (v := .int _ _) rfl) ?_
      refine s_nil ?_
      refine l_end (m' := kl19) (Nat.lt_succ_self _) ?_
      rw [← Option.some.inj h] at hyl19
      obtain ⟨hO40, e40⟩ := hO31.drop1
      exact ⟨(w64 (xl1_t7 + 1)), hyl19, rfl, rfl, rfl, rfl, hO40, (e19.trans (e20.trans (e25.trans (e28.trans (e31.trans e40)))))⟩
    replace h := iF (Int.not_lt.2 h22) h
    refine dG (i := 11) (listed' := #[I_,I_,I_,I_,I_,I_,I_,I_,I_,I_,I_,I_,O_,O_,O_,O_,O_,O_,O_,O_,O_,O_,O_,O_,O_,O_,O_,O_,O_,O_,O_,O_,O_,O_,O_,O_,O_,O_,O_,O_,O_,O_,O_]) rfl 20 hP32 rfl hK32 (fun wS hS => (r_move (v := .bool false) rfl)) ?_
    refine dS (i := 12) (listed' := #[I_,I_,I_,I_,I_,I_,I_,I_,I_,I_,I_,I_,I_,O_,O_,O_,O_,O_,O_,O_,O_,O_,O_,O_,O_,O_,O_,O_,O_,O_,O_,O_,O_,O_,O_,O_,O_,O_,O_,O_,O_,O_,O_]) rfl 23 hP32 rfl hK32 ?_
    refine dS (i := 13) (listed' := #[I_,I_,I_,I_,I_,I_,I_,I_,I_,I_,I_,I_,I_,I_,O_,O_,O_,O_,O_,O_,O_,O_,O_,O_,O_,O_,O_,O_,O_,O_,O_,O_,O_,O_,O_,O_,O_,O_,O_,O_,O_,O_,O_]) rfl 23 hP32 rfl hK32 ?_
    refine dS (i := 14) (listed' := #[I_,I_,I_,I_,I_,I_,I_,I_,I_,I_,I_,I_,I_,I_,I_,O_,O_,O_,O_,O_,O_,O_,O_,O_,O_,O_,O_,O_,O_,O_,O_,O_,O_,O_,O_,O_,O_,O_,O_,O_,O_,O_,O_]) rfl 23 hP32 rfl hK32 ?_
    refine dS (i := 15) (listed' := #[I_,I_,I_,I_,I_,I_,I_,I_,I_,I_,I_,I_,I_,I_,I_,I_,O_,O_,O_,O_,O_,O_,O_,O_,O_,O_,O_,O_,O_,O_,O_,O_,O_,O_,O_,O_,O_,O_,O_,O_,O_,O_,O_]) rfl 23 hP32 rfl hK32 ?_
    refine dS (i := 16) (listed' := #[I_,I_,I_,I_,I_,I_,I_,I_,I_,I_,I_,I_,I_,I_,I_,I_,I_,O_,O_,O_,O_,O_,O_,O_,O_,O_,O_,O_,O_,O_,O_,O_,O_,O_,O_,O_,O_,O_,O_,O_,O_,O_,O_]) rfl 23 hP32 rfl hK32 ?_
    refine dS (i := 17) (listed' := #[I_,I_,I_,I_,I_,I_,I_,I_,I_,I_,I_,I_,I_,I_,I_,I_,I_,I_,O_,O_,O_,O_,O_,O_,O_,O_,O_,O_,O_,O_,O_,O_,O_,O_,O_,O_,O_,O_,O_,O_,O_,O_,O_]) rfl 23 hP32 rfl hK32 ?_
    refine dS (i := 18) (listed' := #[I_,I_,I_,I_,I_,I_,I_,I_,I_,I_,I_,I_,I_,I_,I_,I_,I_,I_,I_,O_,O_,O_,O_,O_,O_,O_,O_,O_,O_,O_,O_,O_,O_,O_,O_,O_,O_,O_,O_,O_,O_,O_,O_]) rfl 23 hP32 rfl hK32 ?_
    refine dS (i := 19) (listed' := #[I_,I_,I_,I_,I_,I_,I_,I_,I_,I_,I_,I_,I_,I_,I_,I_,I_,I_,I_,I_,O_,O_,O_,O_,O_,O_,O_,O_,O_,O_,O_,O_,O_,O_,O_,O_,O_,O_,O_,O_,O_,O_,O_]) rfl 23 hP32 rfl hK32 ?_
    refine dS (i := 20) (listed' := #[I_,I_,I_,I_,I_,I_,I_,I_,I_,I_,I_,I_,I_,I_,I_,I_,I_,I_,I_,I_,I_,O_,O_,O_,O_,O_,O_,O_,O_,O_,O_,O_,O_,O_,O_,O_,O_,O_,O_,O_,O_,O_,O_]) rfl 23 hP32 rfl hK32 ?_
    refine dG (i := 21) (listed' := #[I_,I_,I_,I_,I_,I_,I_,I_,I_,I_,I_,I_,I_,I_,I_,I_,I_,I_,I_,I_,I_,I_,O_,O_,O_,O_,O_,O_,O_,O_,O_,O_,O_,O_,O_,O_,O_,O_,O_,O_,O_,O_,O_]) rfl 20 hP32 rfl hK32 (fun wS hS => (r_pickF (v := .bool false) rfl rfl)) ?_
    refine dT (i := 22) (listed' := #[I_,I_,I_,I_,I_,I_,I_,I_,I_,I_,I_,I_,I_,I_,I_,I_,I_,I_,I_,I_,I_,I_,I_,O_,O_,O_,O_,O_,O_,O_,O_,O_,O_,O_,O_,O_,O_,O_,O_,O_,O_,O_,O_]) rfl hP32 hK32 (fun wS hS => (r_pickF (v := .bool false) rfl rfl)) ?_
    refine dT (i := 23) (listed' := #[I_,I_,I_,I_,I_,I_,I_,I_,I_,I_,I_,I_,I_,I_,I_,I_,I_,I_,I_,I_,I_,I_,I_,I_,O_,O_,O_,O_,O_,O_,O_,O_,O_,O_,O_,O_,O_,O_,O_,O_,O_,O_,O_]) rfl hP32 hK32 (fun wS hS => (r_move (v := .bool false) rfl)) ?_
    refine dG (i := 24) (listed' := #[I_,I_,I_,I_,I_,I_,I_,I_,I_,I_,I_,I_,I_,I_,I_,I_,I_,I_,I_,I_,I_,I_,I_,I_,I_,O_,O_,O_,O_,O_,O_,O_,O_,O_,O_,O_,O_,O_,O_,O_,O_,O_,O_]) rfl 35 hP32 rfl hK32 (fun wS hS => (r_fieldAddr Try.underlying56 rfl I3 (by decide) rfl)) ?_
    refine dG (i := 25) (listed' := #[I_,I_,I_,I_,I_,I_,I_,I_,I_,I_,I_,I_,I_,I_,I_,I_,I_,I_,I_,I_,I_,I_,I_,I_,I_,I_,O_,O_,O_,O_,O_,O_,O_,O_,O_,O_,O_,O_,O_,O_,O_,O_,O_]) rfl 35 hP32 rfl hK32 (fun wS hS => (r_load1 (v := .int _ _) Try.underlying3 rfl rfl (cellB (hS.own.get (i := 0) rfl) rfl rfl))) ?_
    refine dt_lssG (i := 26) (listed' := #[I_,I_,I_,I_,I_,I_,I_,I_,I_,I_,I_,I_,I_,I_,I_,I_,I_,I_,I_,I_,I_,I_,I_,I_,I_,I_,I_,O_,O_,O_,O_,O_,O_,O_,O_,O_,O_,O_,O_,O_,O_,O_,O_]) (by rfl) (by kernel_rfl) (by rfl) hP32.u 35 (by rfl) rfl hK32 rfl rfl (fun h38 => ?_) (fun h38 => ?_)
    · replace h := iT h38 h
      refine dT (i := 27) (listed' := #[I_,I_,I_,I_,I_,I_,I_,I_,I_,I_,I_,I_,I_,I_,I_,I_,I_,I_,I_,I_,I_,I_,I_,I_,I_,I_,I_,I_,O_,O_,O_,O_,O_,O_,O_,O_,O_,O_,O_,O_,O_,O_,O_]) rfl hP32 hK32 (fun wS hS => (r_pickF (v := .bool true) rfl rfl)) ?_
      refine dT (i := 28) (listed' := #[I_,I_,I_,I_,I_,I_,I_,I_,I_,I_,I_,I_,I_,I_,I_,I_,I_,I_,I_,I_,I_,I_,I_,I_,I_,I_,I_,I_,I_,O_,O_,O_,O_,O_,O_,O_,O_,O_,O_,O_,O_,O_,O_]) rfl hP32 hK32 (fun wS hS => (r_move (v := .bool true) rfl)) ?_
      refine dS (i := 29) (listed' := #[I_,I_,I_,I_,I_,I_,I_,I_,I_,I_,I_,I_,I_,I_,I_,I_,I_,I_,I_,I_,I_,I_,I_,I_,I_,I_,I_,I_,I_,I_,O_,O_,O_,O_,O_,O_,O_,O_,O_,O_,O_,O_,O_]) rfl 40 hP32 rfl hK32 ?_
      refine dS (i := 30) (listed' := #[I_,I_,I_,I_,I_,I_,I_,I_,I_,I_,I_,I_,I_,I_,I_,I_,I_,I_,I_,I_,I_,I_,I_,I_,I_,I_,I_,I_,I_,I_,I_,O_,O_,O_,O_,O_,O_,O_,O_,O_,O_,O_,O_]) rfl 40 hP32 rfl hK32 ?_
      refine dS (i := 31) (listed' := #[I_,I_,I_,I_,I_,I_,I_,I_,I_,I_,I_,I_,I_,I_,I_,I_,I_,I_,I_,I_,I_,I_,I_,I_,I_,I_,I_,I_,I_,I_,I_,I_,O_,O_,O_,O_,O_,O_,O_,O_,O_,O_,O_]) rfl 40 hP32 rfl hK32 ?_
      refine dT (i := 32) (listed' := #[I_,I_,I_,I_,I_,I_,I_,I_,I_,I_,I_,I_,I_,I_,I_,I_,I_,I_,I_,I_,I_,I_,I_,I_,I_,I_,I_,I_,I_,I_,I_,I_,I_,O_,O_,O_,O_,O_,O_,O_,O_,O_,O_]) rfl hP32 hK32 (fun wS hS => (r_pickT (v := .bool true) rfl rfl)) ?_
      refine dT (i := 33) (listed' := #[I_,I_,I_,I_,I_,I_,I_,I_,I_,I_,I_,I_,I_,I_,I_,I_,I_,I_,I_,I_,I_,I_,I_,I_,I_,I_,I_,I_,I_,I_,I_,I_,I_,I_,O_,O_,O_,O_,O_,O_,O_,O_,O_]) rfl hP32 hK32 (fun wS hS => (r_move (v := .bool true) rfl)) ?_
      refine dS (i := 34) (listed' := #[I_,I_,I_,I_,I_,I_,I_,I_,I_,I_,I_,I_,I_,I_,I_,I_,I_,I_,I_,I_,I_,I_,I_,I_,I_,I_,I_,I_,I_,I_,I_,I_,I_,I_,I_,O_,O_,O_,O_,O_,O_,O_,O_]) rfl 45 hP32 rfl hK32 ?_
      refine dS (i := 35) (listed' := #[I_,I_,I_,I_,I_,I_,I_,I_,I_,I_,I_,I_,I_,I_,I_,I_,I_,I_,I_,I_,I_,I_,I_,I_,I_,I_,I_,I_,I_,I_,I_,I_,I_,I_,I_,I_,O_,O_,O_,O_,O_,O_,O_]) rfl 45 hP32 rfl hK32 ?_
      refine dS (i := 36) (listed' := #[I_,I_,I_,I_,I_,I_,I_,I_,I_,I_,I_,I_,I_,I_,I_,I_,I_,I_,I_,I_,I_,I_,I_,I_,I_,I_,I_,I_,I_,I_,I_,I_,I_,I_,I_,I_,I_,O_,O_,O_,O_,O_,O_]) rfl 45 hP32 rfl hK32 ?_
      refine dT (i := 37) (listed' := #[I_,I_,I_,I_,I_,I_,I_,I_,I_,I_,I_,I_,I_,I_,I_,I_,I_,I_,I_,I_,I_,I_,I_,I_,I_,I_,I_,I_,I_,I_,I_,I_,I_,I_,I_,I_,I_,I_,O_,O_,O_,O_,O_]) rfl hP32 hK32 (fun wS hS => (r_pickT (v := .bool true) rfl rfl)) ?_
      refine dT (i := 38) (listed' := #[I_,I_,I_,I_,I_,I_,I_,I_,I_,I_,I_,I_,I_,I_,I_,I_,I_,I_,I_,I_,I_,I_,I_,I_,I_,I_,I_,I_,I_,I_,I_,I_,I_,I_,I_,I_,I_,I_,I_,O_,O_,O_,O_]) rfl hP32 hK32 (fun wS hS => (r_move (v := .bool true) rfl)) ?_
      refine dS (i := 39) (listed' := #[I_,I_,I_,I_,I_,I_,I_,I_,I_,I_,I_,I_,I_,I_,I_,I_,I_,I_,I_,I_,I_,I_,I_,I_,I_,I_,I_,I_,I_,I_,I_,I_,I_,I_,I_,I_,I_,I_,I_,I_,O_,O_,O_]) rfl 50 hP32 rfl hK32 ?_
      refine dS (i := 40) (listed' := #[I_,I_,I_,I_,I_,I_,I_,I_,I_,I_,I_,I_,I_,I_,I_,I_,I_,I_,I_,I_,I_,I_,I_,I_,I_,I_,I_,I_,I_,I_,I_,I_,I_,I_,I_,I_,I_,I_,I_,I_,I_,O_,O_]) rfl 50 hP32 rfl hK32 ?_
      refine dS (i := 41) (listed' := #[I_,I_,I_,I_,I_,I_,I_,I_,I_,I_,I_,I_,I_,I_,I_,I_,I_,I_,I_,I_,I_,I_,I_,I_,I_,I_,I_,I_,I_,I_,I_,I_,I_,I_,I_,I_,I_,I_,I_,I_,I_,I_,O_]) rfl 50 hP32 rfl hK32 ?_
      refine dT (i := 42) (listed' := #[I_,I_,I_,I_,I_,I_,I_,I_,I_,I_,I_,I_,I_,I_,I_,I_,I_,I_,I_,I_,I_,I_,I_,I_,I_,I_,I_,I_,I_,I_,I_,I_,I_,I_,I_,I_,I_,I_,I_,I_,I_,I_,I_]) rfl hP32 hK32 (fun wS hS => (r_pickT (v := .bool true) rfl rfl)) ?_
      refine d_done (by kernel_rfl) ?_
      refine c_next ?_
      refine c_condT rfl ?_
      refine c_seq ?_
      refine c_reg ?_
      refine sv (r_assign (v := .bool false) rfl) ?_
      refine s_nil ?_
      refine c_next ?_
      refine c_ret ?_
      refine r_block ?_
      refine r_then ?_
      refine r_then ?_
      refine r_block ?_
      refine r_then ?_
      replace h := crossE h hyl19
      refine e_1 (v := .bool false) Try.results38 rfl ?_
      obtain ⟨hO41, e41⟩ := hO31.drop1
      rw [← Option.some.inj h]
      exact ⟨rfl, hO41, (e19.trans (e20.trans (e25.trans (e28.trans (e31.trans e41)))))⟩
    replace h := iF (Int.not_lt.2 h38) h
    refine dT (i := 27) (listed' := #[I_,I_,I_,I_,I_,I_,I_,I_,I_,I_,I_,I_,I_,I_,I_,I_,I_,I_,I_,I_,I_,I_,I_,I_,I_,I_,I_,I_,O_,O_,O_,O_,O_,O_,O_,O_,O_,O_,O_,O_,O_,O_,O_]) rfl hP32 hK32 (fun wS hS => (r_pickF (v := .bool false) rfl rfl)) ?_
    refine dT (i := 28) (listed' := #[I_,I_,I_,I_,I_,I_,I_,I_,I_,I_,I_,I_,I_,I_,I_,I_,I_,I_,I_,I_,I_,I_,I_,I_,I_,I_,I_,I_,I_,O_,O_,O_,O_,O_,O_,O_,O_,O_,O_,O_,O_,O_,O_]) rfl hP32 hK32 (fun wS hS => (r_move (v := .bool false) rfl)) ?_
    refine dG (i := 29) (listed' := #[I_,I_,I_,I_,I_,I_,I_,I_,I_,I_,I_,I_,I_,I_,I_,I_,I_,I_,I_,I_,I_,I_,I_,I_,I_,I_,I_,I_,I_,I_,O_,O_,O_,O_,O_,O_,O_,O_,O_,O_,O_,O_,O_]) rfl 40 hP32 rfl hK32 (fun wS hS => (r_fieldAddr Try.underlying56 rfl I3 (by decide) rfl)) ?_
    refine dG (i := 30) (listed' := #[I_,I_,I_,I_,I_,I_,I_,I_,I_,I_,I_,I_,I_,I_,I_,I_,I_,I_,I_,I_,I_,I_,I_,I_,I_,I_,I_,I_,I_,I_,I_,O_,O_,O_,O_,O_,O_,O_,O_,O_,O_,O_,O_]) rfl 40 hP32 rfl hK32 (fun wS hS => (r_load1 (v := .int _ _) Try.underlying3 rfl rfl (cellB (hS.own.get (i := 0) rfl) rfl rfl))) ?_
    refine dt_gtrG (i := 31) (listed' := #[I_,I_,I_,I_,I_,I_,I_,I_,I_,I_,I_,I_,I_,I_,I_,I_,I_,I_,I_,I_,I_,I_,I_,I_,I_,I_,I_,I_,I_,I_,I_,I_,O_,O_,O_,O_,O_,O_,O_,O_,O_,O_,O_]) (by rfl) (by kernel_rfl) (by rfl) hP32.u 40 (by rfl) rfl hK32 rfl rfl (fun h43 => ?_) (fun h43 => ?_)
    · replace h := iT h43 h
      refine dT (i := 32) (listed' := #[I_,I_,I_,I_,I_,I_,I_,I_,I_,I_,I_,I_,I_,I_,I_,I_,I_,I_,I_,I_,I_,I_,I_,I_,I_,I_,I_,I_,I_,I_,I_,I_,I_,O_,O_,O_,O_,O_,O_,O_,O_,O_,O_]) rfl hP32 hK32 (fun wS hS => (r_pickF (v := .bool true) rfl rfl)) ?_
      refine dT (i := 33) (listed' := #[I_,I_,I_,I_,I_,I_,I_,I_,I_,I_,I_,I_,I_,I_,I_,I_,I_,I_,I_,I_,I_,I_,I_,I_,I_,I_,I_,I_,I_,I_,I_,I_,I_,I_,O_,O_,O_,O_,O_,O_,O_,O_,O_]) rfl hP32 hK32 (fun wS hS => (r_move (v := .bool true) rfl)) ?_
      refine dS (i := 34) (listed' := #[I_,I_,I_,I_,I_,I_,I_,I_,I_,I_,I_,I_,I_,I_,I_,I_,I_,I_,I_,I_,I_,I_,I_,I_,I_,I_,I_,I_,I_,I_,I_,I_,I_,I_,I_,O_,O_,O_,O_,O_,O_,O_,O_]) rfl 45 hP32 rfl hK32 ?_
      refine dS (i := 35) (listed' := #[I_,I_,I_,I_,I_,I_,I_,I_,I_,I_,I_,I_,I_,I_,I_,I_,I_,I_,I_,I_,I_,I_,I_,I_,I_,I_,I_,I_,I_,I_,I_,I_,I_,I_,I_,I_,O_,O_,O_,O_,O_,O_,O_]) rfl 45 hP32 rfl hK32 ?_
      refine dS (i := 36) (listed' := #[I_,I_,I_,I_,I_,I_,I_,I_,I_,I_,I_,I_,I_,I_,I_,I_,I_,I_,I_,I_,I_,I_,I_,I_,I_,I_,I_,I_,I_,I_,I_,I_,I_,I_,I_,I_,I_,O_,O_,O_,O_,O_,O_]) rfl 45 hP32 rfl hK32 ?_
      refine dT (i := 37) (listed' := #[I_,I_,I_,I_,I_,I_,I_,I_,I_,I_,I_,I_,I_,I_,I_,I_,I_,I_,I_,I_,I_,I_,I_,I_,I_,I_,I_,I_,I_,I_,I_,I_,I_,I_,I_,I_,I_,I_,O_,O_,O_,O_,O_]) rfl hP32 hK32 (fun wS hS => (r_pickT (v := .bool true) rfl rfl)) ?_
      refine dT (i := 38) (listed' := #[I_,I_,I_,I_,I_,I_,I_,I_,I_,I_,I_,I_,I_,I_,I_,I_,I_,I_,I_,I_,I_,I_,I_,I_,I_,I_,I_,I_,I_,I_,I_,I_,I_,I_,I_,I_,I_,I_,I_,O_,O_,O_,O_]) rfl hP32 hK32 (fun wS hS => (r_move (v := .bool true) rfl)) ?_
      refine dS (i := 39) (listed' := #[I_,I_,I_,I_,I_,I_,I_,I_,I_,I_,I_,I_,I_,I_,I_,I_,I_,I_,I_,I_,I_,I_,I_,I_,I_,I_,I_,I_,I_,I_,I_,I_,I_,I_,I_,I_,I_,I_,I_,I_,O_,O_,O_]) rfl 50 hP32 rfl hK32 ?_
      refine dS (i := 40) (listed' := #[I_,I_,I_,I_,I_,I_,I_,I_,I_,I_,I_,I_,I_,I_,I_,I_,I_,I_,I_,I_,I_,I_,I_,I_,I_,I_,I_,I_,I_,I_,I_,I_,I_,I_,I_,I_,I_,I_,I_,I_,I_,O_,O_]) rfl 50 hP32 rfl hK32 ?_
      refine dS (i := 41) (listed' := #[I_,I_,I_,I_,I_,I_,I_,I_,I_,I_,I_,I_,I_,I_,I_,I_,I_,I_,I_,I_,I_,I_,I_,I_,I_,I_,I_,I_,I_,I_,I_,I_,I_,I_,I_,I_,I_,I_,I_,I_,I_,I_,O_]) rfl 50 hP32 rfl hK32 ?_
      refine dT (i := 42) (listed' := #[I_,I_,I_,I_,I_,I_,I_,I_,I_,I_,I_,I_,I_,I_,I_,I_,I_,I_,I_,I_,I_,I_,I_,I_,I_,I_,I_,I_,I_,I_,I_,I_,I_,I_,I_,I_,I_,I_,I_,I_,I_,I_,I_]) rfl hP32 hK32 (fun wS hS => (r_pickT (v := .bool true) rfl rfl)) ?_
      refine d_done (by kernel_rfl) ?_
      refine c_next ?_
      refine c_condT rfl ?_
      refine c_seq ?_
      refine c_reg ?_
      refine sv (r_assign (v := .bool false) rfl) ?_
      refine s_nil ?_
      refine c_next ?_
      refine c_ret ?_
      refine r_block ?_
      refine r_then ?_
      refine r_then ?_
      refine r_block ?_
      refine r_then ?_
      replace h := crossE h hyl19
      refine e_1 (v := .bool false) Try.results38 rfl ?_
      obtain ⟨hO42, e42⟩ := hO31.drop1
      rw [← Option.some.inj h]
      exact ⟨rfl, hO42, (e19.trans (e20.trans (e25.trans (e28.trans (e31.trans e42)))))⟩
    replace h := iF (Int.not_lt.2 h43) h
    refine dT (i := 32) (listed' := #[I_,I_,I_,I_,I_,I_,I_,I_,I_,I_,I_,I_,I_,I_,I_,I_,I_,I_,I_,I_,I_,I_,I_,I_,I_,I_,I_,I_,I_,I_,I_,I_,I_,O_,O_,O_,O_,O_,O_,O_,O_,O_,O_]) rfl hP32 hK32 (fun wS hS => (r_pickF (v := .bool false) rfl rfl)) ?_
    refine dT (i := 33) (listed' := #[I_,I_,I_,I_,I_,I_,I_,I_,I_,I_,I_,I_,I_,I_,I_,I_,I_,I_,I_,I_,I_,I_,I_,I_,I_,I_,I_,I_,I_,I_,I_,I_,I_,I_,O_,O_,O_,O_,O_,O_,O_,O_,O_]) rfl hP32 hK32 (fun wS hS => (r_move (v := .bool false) rfl)) ?_
    refine dG (i := 34) (listed' := #[I_,I_,I_,I_,I_,I_,I_,I_,I_,I_,I_,I_,I_,I_,I_,I_,I_,I_,I_,I_,I_,I_,I_,I_,I_,I_,I_,I_,I_,I_,I_,I_,I_,I_,I_,O_,O_,O_,O_,O_,O_,O_,O_]) rfl 45 hP32 rfl hK32 (fun wS hS => (r_fieldAddr Try.underlying56 rfl I3 (by decide) rfl)) ?_
    refine dG (i := 35) (listed' := #[I_,I_,I_,I_,I_,I_,I_,I_,I_,I_,I_,I_,I_,I_,I_,I_,I_,I_,I_,I_,I_,I_,I_,I_,I_,I_,I_,I_,I_,I_,I_,I_,I_,I_,I_,I_,O_,O_,O_,O_,O_,O_,O_]) rfl 45 hP32 rfl hK32 (fun wS hS => (r_load1 (v := .int _ _) Try.underlying3 rfl rfl (cellB (hS.own.get (i := 0) rfl) rfl rfl))) ?_
    refine dt_lssG (i := 36) (listed' := #[I_,I_,I_,I_,I_,I_,I_,I_,I_,I_,I_,I_,I_,I_,I_,I_,I_,I_,I_,I_,I_,I_,I_,I_,I_,I_,I_,I_,I_,I_,I_,I_,I_,I_,I_,I_,I_,O_,O_,O_,O_,O_,O_]) (by rfl) (by kernel_rfl) (by rfl) hP32.u 45 (by rfl) rfl hK32 rfl rfl (fun h48 => ?_) (fun h48 => ?_)
    · replace h := iT h48 h
      refine dT (i := 37) (listed' := #[I_,I_,I_,I_,I_,I_,I_,I_,I_,I_,I_,I_,I_,I_,I_,I_,I_,I_,I_,I_,I_,I_,I_,I_,I_,I_,I_,I_,I_,I_,I_,I_,I_,I_,I_,I_,I_,I_,O_,O_,O_,O_,O_]) rfl hP32 hK32 (fun wS hS => (r_pickF (v := .bool true) rfl rfl)) ?_
      refine dT (i := 38) (listed' := #[I_,I_,I_,I_,I_,I_,I_,I_,I_,I_,I_,I_,I_,I_,I_,I_,I_,I_,I_,I_,I_,I_,I_,I_,I_,I_,I_,I_,I_,I_,I_,I_,I_,I_,I_,I_,I_,I_,I_,O_,O_,O_,O_]) rfl hP32 hK32 (fun wS hS => (r_move (v := .bool true) rfl)) ?_
      refine dS (i := 39) (listed' := #[I_,I_,I_,I_,I_,I_,I_,I_,I_,I_,I_,I_,I_,I_,I_,I_,I_,I_,I_,I_,I_,I_,I_,I_,I_,I_,I_,I_,I_,I_,I_,I_,I_,I_,I_,I_,I_,I_,I_,I_,O_,O_,O_]) rfl 50 hP32 rfl hK32 ?_
      refine dS (i := 40) (listed' := #[I_,I_,I_,I_,I_,I_,I_,I_,I_,I_,I_,I_,I_,I_,I_,I_,I_,I_,I_,I_,I_,I_,I_,I_,I_,I_,I_,I_,I_,I_,I_,I_,I_,I_,I_,I_,I_,I_,I_,I_,I_,O_,O_]) rfl 50 hP32 rfl hK32 ?_
      refine dS (i := 41) (listed' := #[I_,I_,I_,I_,I_,I_,I_,I_,I_,I_,I_,I_,I_,I_,I_,I_,I_,I_,I_,I_,I_,I_,I_,I_,I_,I_,I_,I_,I_,I_,I_,I_,I_,I_,I_,I_,I_,I_,I_,I_,I_,I_,O_]) rfl 50 hP32 rfl hK32 ?_
      refine dT (i := 42) (listed' := #[I_,I_,I_,I_,I_,I_,I_,I_,I_,I_,I_,I_,I_,I_,I_,I_,I_,I_,I_,I_,I_,I_,I_,I_,I_,I_,I_,I_,I_,I_,I_,I_,I_,I_,I_,I_,I_,I_,I_,I_,I_,I_,I_]) rfl hP32 hK32 (fun wS hS => (r_pickT (v := .bool true) rfl rfl)) ?_
      refine d_done (by kernel_rfl) ?_
      refine c_next ?_
      refine c_condT rfl ?_
      refine c_seq ?_
      refine c_reg ?_
      refine sv (r_assign (v := .bool false) rfl) ?_
      refine s_nil ?_
      refine c_next ?_
      refine c_ret ?_
      refine r_block ?_
      refine r_then ?_
      refine r_then ?_
      refine r_block ?_
      refine r_then ?_
      replace h := crossE h hyl19
      refine e_1 (v := .bool false) Try.results38 rfl ?_
      obtain ⟨hO43, e43⟩ := hO31.drop1
      rw [← Option.some.inj h]
      exact ⟨rfl, hO43, (e19.trans (e20.trans (e25.trans (e28.trans (e31.trans e43)))))⟩
    replace h := iF (Int.not_lt.2 h48) h
    refine dT (i := 37) (listed' := #[I_,I_,I_,I_,I_,I_,I_,I_,I_,I_,I_,I_,I_,I_,I_,I_,I_,I_,I_,I_,I_,I_,I_,I_,I_,I_,I_,I_,I_,I_,I_,I_,I_,I_,I_,I_,I_,I_,O_,O_,O_,O_,O_]) rfl hP32 hK32 (fun wS hS => (r_pickF (v := .bool false) rfl rfl)) ?_
    refine dT (i := 38) (listed' := #[I_,I_,I_,I_,I_,I_,I_,I_,I_,I_,I_,I_,I_,I_,I_,I_,I_,I_,I_,I_,I_,I_,I_,I_,I_,I_,I_,I_,I_,I_,I_,I_,I_,I_,I_,I_,I_,I_,I_,O_,O_,O_,O_]) rfl hP32 hK32 (fun wS hS => (r_move (v := .bool false) rfl)) ?_
    refine dG (i := 39) (listed' := #[I_,I_,I_,I_,I_,I_,I_,I_,I_,I_,I_,I_,I_,I_,I_,I_,I_,I_,I_,I_,I_,I_,I_,I_,I_,I_,I_,I_,I_,I_,I_,I_,I_,I_,I_,I_,I_,I_,I_,I_,O_,O_,O_]) rfl 50 hP32 rfl hK32 (fun wS hS => (r_fieldAddr Try.underlying56 rfl I3 (by decide) rfl)) ?_
    refine dG (i := 40) (listed' := #[I_,I_,I_,I_,I_,I_,I_,I_,I_,I_,I_,I_,I_,I_,I_,I_,I_,I_,I_,I_,I_,I_,I_,I_,I_,I_,I_,I_,I_,I_,I_,I_,I_,I_,I_,I_,I_,I_,I_,I_,I_,O_,O_]) rfl 50 hP32 rfl hK32 (fun wS hS => (r_load1 (v := .int _ _) Try.underlying3 rfl rfl (cellB (hS.own.get (i := 0) rfl) rfl rfl))) ?_
    refine dt_gtrG (i := 41) (listed' := #[I_,I_,I_,I_,I_,I_,I_,I_,I_,I_,I_,I_,I_,I_,I_,I_,I_,I_,I_,I_,I_,I_,I_,I_,I_,I_,I_,I_,I_,I_,I_,I_,I_,I_,I_,I_,I_,I_,I_,I_,I_,I_,O_]) (by rfl) (by kernel_rfl) (by rfl) hP32.u 50 (by rfl) rfl hK32 rfl rfl (fun h53 => ?_) (fun h53 => ?_)
    · replace h := iT h53 h
      refine dT (i := 42) (listed' := #[I_,I_,I_,I_,I_,I_,I_,I_,I_,I_,I_,I_,I_,I_,I_,I_,I_,I_,I_,I_,I_,I_,I_,I_,I_,I_,I_,I_,I_,I_,I_,I_,I_,I_,I_,I_,I_,I_,I_,I_,I_,I_,I_]) rfl hP32 hK32 (fun wS hS => (r_pickF (v := .bool true) rfl rfl)) ?_
      refine d_done (by kernel_rfl) ?_
      refine c_next ?_
      refine c_condT rfl ?_
      refine c_seq ?_
      refine c_reg ?_
      refine sv (r_assign (v := .bool false) rfl) ?_
      refine s_nil ?_
      refine c_next ?_
      refine c_ret ?_
      refine r_block ?_
      refine r_then ?_
      refine r_then ?_
      refine r_block ?_
      refine r_then ?_
      replace h := crossE h hyl19
      refine e_1 (v := .bool false) Try.results38 rfl ?_
      obtain ⟨hO44, e44⟩ := hO31.drop1
      rw [← Option.some.inj h]
      exact ⟨rfl, hO44, (e19.trans (e20.trans (e25.trans (e28.trans (e31.trans e44)))))⟩
    replace h := iF (Int.not_lt.2 h53) h
    refine dT (i := 42) (listed' := #[I_,I_,I_,I_,I_,I_,I_,I_,I_,I_,I_,I_,I_,I_,I_,I_,I_,I_,I_,I_,I_,I_,I_,I_,I_,I_,I_,I_,I_,I_,I_,I_,I_,I_,I_,I_,I_,I_,I_,I_,I_,I_,I_]) rfl hP32 hK32 (fun wS hS => (r_pickF (v := .bool false) rfl rfl)) ?_
    refine d_done (by kernel_rfl) ?_
    refine c_next ?_
    refine c_condF rfl ?_
    refine c_skip ?_
    refine x_norm ?_
    refine c_next ?_
    refine c_reg ?_
    refine sv (r_addI (a := xl1_t7) (b := 1) rfl rfl) ?_
    refine sv (r_move (v := .int _ _) rfl) ?_
    refine s_nil ?_
    refine l_end (m' := kl19) (Nat.lt_succ_self _) ?_
    rw [← Option.some.inj h] at hyl19
    obtain ⟨hO45, e45⟩ := hO31.drop1
    exact ⟨(w64 (xl1_t7 + 1)), hyl19, rfl, rfl, rfl, rfl, hO45, (e19.trans (e20.trans (e25.trans (e28.trans (e31.trans e45)))))⟩
  replace h := iF (nt hb22) h
  refine c_condF (congrArg Value.bool hb22) ?_
  refine c_exit ?_
  refine x_then ?_
  refine x_then ?_
  refine x_same ?_
  replace h := crossE h hyl19
  refine c_next ?_
  refine c_seq ?_
  refine c_reg ?_
  refine sv (r_assign (v := .bool true) rfl) ?_
  refine s_nil ?_
  refine c_next ?_
  refine c_ret ?_
  refine e_1 (v := .bool true) Try.results38 rfl ?_
  rw [← Option.some.inj h]
  exact ⟨rfl, hO20, (e19.trans e20)⟩
theorem c_ticket_Right (x0 : (List T_ticket_Ticket)) (aP0 : Option Addr) (mP0 cP0 : Nat)  (r : Bool) (h : F_ticket_Right x0 = some r) (w : World) (L : Hp) (hm0p : x0.length = mP0) (hc0p : mP0 ≤ cP0) (hR0p : Rd w L aP0 (fl e_ticket_Ticket x0)) (hO : Own w L) :
    Calls Try.prog 39 #[(.slice aP0 mP0 cP0)] w fun en w' => en = .returned (.bool r) ∧ Own w' L ∧ Ext w L w' L := by
  unfold F_ticket_Right at h
  refine enter (n := 34) [(.slice aP0 mP0 cP0)] Try.func39 rfl rfl (Nat.le_of_ble_eq_true rfl) ?_
  refine c_seq ?_
  refine c_reg ?_
  refine sv (r_assign (v := .bool false) rfl) ?_
  refine s_nil ?_
  refine c_next ?_
  refine c_seq ?_
  refine c_seq ?_
  refine c_reg ?_
  refine sv (r_move (v := .slice _ _ _) rfl) ?_
  refine sv (r_lenL (xs := x0) Try.underlying25 rfl hm0p) ?_
  refine sv (r_move (v := .int _ _) rfl) ?_
  refine s_nil ?_
  refine c_next ?_
  refine c_block ?_
  obtain ⟨kl25, hkl25⟩ := loop_iff.1 h
  clear h
  refine c_loopL hO (fun Lc f0 m g wl => ∃ (xl1_t7 : Int), (iterK (ticket_Right_l1 x0) m xl1_t7 = some r) ∧ g 0 = (.slice aP0 mP0 cP0) ∧ g 5 = (.slice aP0 mP0 cP0) ∧ g 6 = (.int .i64 ((x0.length : Int))) ∧ g 7 = (.int .i64 xl1_t7) ∧ Own wl L ∧ Ext w Lc wl L) kl25 ?_ ?_
  · skip
    exact ⟨0, hkl25, rfl, rfl, rfl, rfl, hO, (Ext.refl _ _)⟩
  clear hkl25
  intro mm25 gg25 w25 hI25
  obtain ⟨xl1_t7, hkl25, hsl1_0, hsl1_5, hsl1_6, hsl1_7, hO25, e25⟩ := hI25
  obtain ⟨kl25, yl25, rfl, h, hyl25⟩ := iterE hkl25
  clear hkl25
  obtain ⟨qq25, rfl⟩ := fr4 hsl1_0 hsl1_5 hsl1_6 hsl1_7
  clear hsl1_0 hsl1_5 hsl1_6 hsl1_7
  have hR0p := (hR0p.ext e25)
  obtain ⟨oc26, G26, hG26, h, hr26⟩ := bindG h
  refine c_cutL hO25 (fun Lc f0 g w' => ∃ (xc2_t8 : Bool), (G26 xc2_t8 = some yl25) ∧ g 0 = (.slice aP0 mP0 cP0) ∧ g 5 = (.slice aP0 mP0 cP0) ∧ g 6 = (.int .i64 ((x0.length : Int))) ∧ g 7 = (.int .i64 xl1_t7) ∧ g 8 = (.bool xc2_t8) ∧ Own w' L ∧ Ext w25 Lc w' L) ?_ ?_
  · skip
    refine c_reg ?_
    refine c_lss rfl rfl (fun h8 => ?_) (fun h8 => ?_)
    · replace h := iT h8 h
      refine s_nil ?_
      refine c_next ?_
      rw [← Option.some.inj h] at hr26
      exact ⟨_, rfl, true, hr26, rfl, rfl, rfl, rfl, rfl, hO25, (Ext.refl _ _)⟩
    replace h := iF (Int.not_lt.2 h8) h
    refine s_nil ?_
    refine c_next ?_
    rw [← Option.some.inj h] at hr26
    exact ⟨_, rfl, false, hr26, rfl, rfl, rfl, rfl, rfl, hO25, (Ext.refl _ _)⟩
  intro gg26 w26 hI26
  clear h hr26
  obtain ⟨xc2_t8, h, hsc2_0, hsc2_5, hsc2_6, hsc2_7, hsc2_8, hO26, e26⟩ := hI26
  replace h := hG_ hG26 h; clear hG26
  obtain ⟨qq26, rfl⟩ := fr5 hsc2_0 hsc2_5 hsc2_6 hsc2_7 hsc2_8
  clear hsc2_0 hsc2_5 hsc2_6 hsc2_7 hsc2_8
  refine c_seq ?_
  rcases Bool.eq_false_or_eq_true (xc2_t8) with hb28 | hb28
  · replace h := iT hb28 h
    refine c_condT (congrArg Value.bool hb28) ?_
    refine c_skip ?_
    refine c_next ?_
    refine c_seq ?_
    refine c_block ?_
    refine c_seq ?_
    refine c_reg ?_
    refine sv (r_move (v := .int _ _) rfl) ?_
    obtain ⟨y10, hy10, h⟩ := bindE h
    refine a_idx (e := e_ticket_Ticket) (xs := x0) (i := xl1_t7) Try.underlying25 I59 rfl rfl (Rd.cs (hR0p.ext e26)) e_ticket_Ticket_len (by decide) hm0p hy10 ?_
    intro p10 hp10
    refine s_loadN (cs := [(.int .i64 y10.No), (.int .i64 y10.For), (.int .i64 y10.Until)]) Try.underlying59 rfl I59 rfl rfl hp10 ?_
    refine s_alloc I59 hO26 ?_
    intro b4 w40 hz4 hl4 hO40 e40
    have hO41 : Own w40 ((b4, .cells #[(.int .i64 0), (.int .i64 0), (.int .i64 0)] 59 (0, 0)) :: L) := hO40
    refine sv (r_assign (v := .int _ _) rfl) ?_
    refine s_storeN (vs := #[(.int .i64 y10.No), (.int .i64 y10.For), (.int .i64 y10.Until)]) I59 rfl rfl rfl hO41 (i := 0) rfl (Nat.le_of_ble_eq_true rfl) (List.all_eq_true.1 rfl) ?_
    intro w43 hO43 e43
    have hO44 : Own w43 ((b4, .cells #[(.int .i64 y10.No), (.int .i64 y10.For), (.int .i64 y10.Until)] 59 (0, 0)) :: L) := hO43
    refine s_nil ?_
    refine c_next ?_
    refine c_seq ?_
    have hR0p := (hR0p.ext (e26.trans (e40.trans e43)))
    refine d_startL hO44 hO44 18 (by kernel_rfl) (pk_then (pk_block (pk_then (pk_then (pk_block (pk_then pk_body)))))) ?_
    intro hP52 wd52 hK52 hO51 e51
    refine dT (i := 0) (listed' := #[I_,O_,O_,O_,O_,O_,O_,O_,O_,O_,O_,O_,O_,O_,O_,O_,O_,O_]) rfl hP52 hK52 (fun wS hS => (rl_all Try.underlying59 rfl I59 rfl (hS.own.get (i := 0) rfl) rfl rfl)) ?_
    refine d1 (i := 1) (listed' := #[I_,I_,O_,O_,O_,O_,O_,O_,O_,O_,O_,O_,O_,O_,O_,O_,O_,O_]) ?_
    obtain ⟨y13, hy13, h⟩ := bindE h
    refine s_call cf54 rfl (c_ticket_one y10 _ hy13 _ _ hO51) ?_
    rintro er13 w53 ⟨rfl, hO53, e53⟩
    refine ⟨_, rfl, ?_⟩
    have hK54 : Kept w43 _ _ w53 := Kept.to (e51.trans e53) hO53
    refine d_back hK54 ?_
    refine dT (i := 2) (listed' := #[I_,I_,I_,O_,O_,O_,O_,O_,O_,O_,O_,O_,O_,O_,O_,O_,O_,O_]) rfl hP52 hK54 (fun wS hS => (r_not (b := y13) rfl)) ?_
    refine dT (i := 3) (listed' := #[I_,I_,I_,I_,O_,O_,O_,O_,O_,O_,O_,O_,O_,O_,O_,O_,O_,O_]) rfl hP52 hK54 (fun wS hS => (r_move (v := .bool _) rfl)) ?_
    rcases Bool.eq_false_or_eq_true (y13) with hb55 | hb55
    · replace h := iT hb55 h
      refine dG (i := 4) (listed' := #[I_,I_,I_,I_,I_,O_,O_,O_,O_,O_,O_,O_,O_,O_,O_,O_,O_,O_]) rfl 15 hP52 (congrArg Value.bool (nnt hb55)) hK54 (fun wS hS => (r_move (v := .int _ _) rfl)) ?_
      refine dt_gtrG (i := 5) (listed' := #[I_,I_,I_,I_,I_,I_,O_,O_,O_,O_,O_,O_,O_,O_,O_,O_,O_,O_]) (by rfl) (by kernel_rfl) (by rfl) hP52.u 15 (by rfl) (congrArg Value.bool (nnt hb55)) hK54 rfl rfl (fun h17 => ?_) (fun h17 => ?_)
      · replace h := iT h17 h
        refine dG (i := 6) (listed' := #[I_,I_,I_,I_,I_,I_,I_,O_,O_,O_,O_,O_,O_,O_,O_,O_,O_,O_]) rfl 15 hP52 (congrArg Value.bool (nnt hb55)) hK54 (fun wS hS => (r_move (v := .bool true) rfl)) ?_
        refine dG (i := 7) (listed' := #[I_,I_,I_,I_,I_,I_,I_,I_,O_,O_,O_,O_,O_,O_,O_,O_,O_,O_]) rfl 18 hP52 rfl hK54 (fun wS hS => (r_fieldAddr Try.underlying59 rfl I3 (by decide) rfl)) ?_
        refine dG (i := 8) (listed' := #[I_,I_,I_,I_,I_,I_,I_,I_,I_,O_,O_,O_,O_,O_,O_,O_,O_,O_]) rfl 18 hP52 rfl hK54 (fun wS hS => (r_load1 (v := .int _ _) Try.underlying3 rfl rfl (cellB (hS.own.get (i := 0) rfl) rfl rfl))) ?_
        refine dG (i := 9) (listed' := #[I_,I_,I_,I_,I_,I_,I_,I_,I_,I_,O_,O_,O_,O_,O_,O_,O_,O_]) rfl 18 hP52 rfl hK54 (fun wS hS => (r_move (v := .slice _ _ _) rfl)) ?_
        refine dG (i := 10) (listed' := #[I_,I_,I_,I_,I_,I_,I_,I_,I_,I_,I_,O_,O_,O_,O_,O_,O_,O_]) rfl 18 hP52 rfl hK54 (fun wS hS => (r_move (v := .int _ _) rfl)) ?_
        refine dG (i := 11) (listed' := #[I_,I_,I_,I_,I_,I_,I_,I_,I_,I_,I_,I_,O_,O_,O_,O_,O_,O_]) rfl 18 hP52 rfl hK54 (fun wS hS => (r_subI (a := xl1_t7) (b := 1) rfl rfl)) ?_
        obtain ⟨y24, hy24, h⟩ := bindE h
        obtain ⟨ad24, had24, hk24⟩ := ix_known (e := e_ticket_Ticket) (Rd.cs hR0p) e_ticket_Ticket_len (by decide) hy24
        have hx24 : Value.slice aP0 mP0 cP0 = .slice (some ad24) mP0 cP0 := by rw [had24]
        refine dG (i := 12) (listed' := #[I_,I_,I_,I_,I_,I_,I_,I_,I_,I_,I_,I_,I_,O_,O_,O_,O_,O_]) rfl 18 hP52 rfl hK54 (fun wS hS => (ra_idx (xs := x0) (i := (w64 (xl1_t7 - 1))) Try.underlying25 I59 (by exact hx24) (by rfl) hm0p hy24)) ?_
        refine dG (i := 13) (listed' := #[I_,I_,I_,I_,I_,I_,I_,I_,I_,I_,I_,I_,I_,I_,O_,O_,O_,O_]) rfl 18 hP52 rfl hK54 (fun wS hS => (r_fieldAddr Try.underlying59 rfl I3 (by decide) rfl)) ?_
        refine dG (i := 14) (listed' := #[I_,I_,I_,I_,I_,I_,I_,I_,I_,I_,I_,I_,I_,I_,I_,O_,O_,O_]) rfl 18 hP52 rfl hK54 (fun wS hS => (r_load1 (v := .int _ _) Try.underlying3 rfl rfl (cellP (hk24 _ (hR0p.kept hS)) 0 rfl))) ?_
        refine dt_leqG (i := 15) (listed' := #[I_,I_,I_,I_,I_,I_,I_,I_,I_,I_,I_,I_,I_,I_,I_,I_,O_,O_]) (by rfl) (by kernel_rfl) (by rfl) hP52.u 18 (by rfl) rfl hK54 rfl rfl (fun h27 => ?_) (fun h27 => ?_)
        · replace h := iT h27 h
          refine dG (i := 16) (listed' := #[I_,I_,I_,I_,I_,I_,I_,I_,I_,I_,I_,I_,I_,I_,I_,I_,I_,O_]) rfl 15 hP52 (congrArg Value.bool (nnt hb55)) hK54 (fun wS hS => (r_pickT (v := .bool true) rfl rfl)) ?_
          refine dT (i := 17) (listed' := #[I_,I_,I_,I_,I_,I_,I_,I_,I_,I_,I_,I_,I_,I_,I_,I_,I_,I_]) rfl hP52 hK54 (fun wS hS => (r_pickF (v := .bool true) (by exact (congrArg Value.bool (nnt hb55))) rfl)) ?_
          refine d_done (by kernel_rfl) ?_
          refine c_next ?_
          refine c_condT rfl ?_
          refine c_seq ?_
          refine c_reg ?_
          refine sv (r_assign (v := .bool false) rfl) ?_
          refine s_nil ?_
          refine c_next ?_
          refine c_ret ?_
          refine r_block ?_
          refine r_then ?_
          refine r_then ?_
          refine r_block ?_
          refine r_then ?_
          replace h := crossE h hyl25
          refine e_1 (v := .bool false) Try.results39 rfl ?_
          obtain ⟨hO56, e56⟩ := hO53.drop1
          rw [← Option.some.inj h]
          exact ⟨rfl, hO56, (e25.trans (e26.trans (e40.trans (e43.trans (e51.trans (e53.trans e56))))))⟩
        replace h := iF (Int.not_le.2 h27) h
        refine dG (i := 16) (listed' := #[I_,I_,I_,I_,I_,I_,I_,I_,I_,I_,I_,I_,I_,I_,I_,I_,I_,O_]) rfl 15 hP52 (congrArg Value.bool (nnt hb55)) hK54 (fun wS hS => (r_pickT (v := .bool false) rfl rfl)) ?_
        refine dT (i := 17) (listed' := #[I_,I_,I_,I_,I_,I_,I_,I_,I_,I_,I_,I_,I_,I_,I_,I_,I_,I_]) rfl hP52 hK54 (fun wS hS => (r_pickF (v := .bool false) (by exact (congrArg Value.bool (nnt hb55))) rfl)) ?_
        refine d_done (by kernel_rfl) ?_
        refine c_next ?_
        refine c_condF rfl ?_
        refine c_skip ?_
        refine x_norm ?_
        refine c_next ?_
        refine c_reg ?_
        refine sv (r_addI (a := xl1_t7) (b := 1) rfl rfl) ?_
        refine sv (r_move (v := .int _ _) rfl) ?_
        refine s_nil ?_
        refine l_end (m' := kl25) (Nat.lt_succ_self _) ?_
        rw [← Option.some.inj h] at hyl25
        obtain ⟨hO57, e57⟩ := hO53.drop1
        exact ⟨(w64 (xl1_t7 + 1)), hyl25, rfl, rfl, rfl, rfl, hO57, (e25.trans (e26.trans (e40.trans (e43.trans (e51.trans (e53.trans e57))))))⟩
      replace h := iF (Int.not_lt.2 h17) h
      refine dG (i := 6) (listed' := #[I_,I_,I_,I_,I_,I_,I_,O_,O_,O_,O_,O_,O_,O_,O_,O_,O_,O_]) rfl 15 hP52 (congrArg Value.bool (nnt hb55)) hK54 (fun wS hS => (r_move (v := .bool false) rfl)) ?_
      refine dS (i := 7) (listed' := #[I_,I_,I_,I_,I_,I_,I_,I_,O_,O_,O_,O_,O_,O_,O_,O_,O_,O_]) rfl 18 hP52 rfl hK54 ?_
      refine dS (i := 8) (listed' := #[I_,I_,I_,I_,I_,I_,I_,I_,I_,O_,O_,O_,O_,O_,O_,O_,O_,O_]) rfl 18 hP52 rfl hK54 ?_
      refine dS (i := 9) (listed' := #[I_,I_,I_,I_,I_,I_,I_,I_,I_,I_,O_,O_,O_,O_,O_,O_,O_,O_]) rfl 18 hP52 rfl hK54 ?_
      refine dS (i := 10) (listed' := #[I_,I_,I_,I_,I_,I_,I_,I_,I_,I_,I_,O_,O_,O_,O_,O_,O_,O_]) rfl 18 hP52 rfl hK54 ?_
      refine dS (i := 11) (listed' := #[I_,I_,I_,I_,I_,I_,I_,I_,I_,I_,I_,I_,O_,O_,O_,O_,O_,O_]) rfl 18 hP52 rfl hK54 ?_
      refine dS (i := 12) (listed' := #[I_,I_,I_,I_,I_,I_,I_,I_,I_,I_,I_,I_,I_,O_,O_,O_,O_,O_]) rfl 18 hP52 rfl hK54 ?_
      refine dS (i := 13) (listed' := #[I_,I_,I_,I_,I_,I_,I_,I_,I_,I_,I_,I_,I_,I_,O_,O_,O_,O_]) rfl 18 hP52 rfl hK54 ?_
      refine dS (i := 14) (listed' := #[I_,I_,I_,I_,I_,I_,I_,I_,I_,I_,I_,I_,I_,I_,I_,O_,O_,O_]) rfl 18 hP52 rfl hK54 ?_
      refine dS (i := 15) (listed' := #[I_,I_,I_,I_,I_,I_,I_,I_,I_,I_,I_,I_,I_,I_,I_,I_,O_,O_]) rfl 18 hP52 rfl hK54 ?_
      refine dG (i := 16) (listed' := #[I_,I_,I_,I_,I_,I_,I_,I_,I_,I_,I_,I_,I_,I_,I_,I_,I_,O_]) rfl 15 hP52 (congrArg Value.bool (nnt hb55)) hK54 (fun wS hS => (r_pickF (v := .bool false) rfl rfl)) ?_
      refine dT (i := 17) (listed' := #[I_,I_,I_,I_,I_,I_,I_,I_,I_,I_,I_,I_,I_,I_,I_,I_,I_,I_]) rfl hP52 hK54 (fun wS hS => (r_pickF (v := .bool false) (by exact (congrArg Value.bool (nnt hb55))) rfl)) ?_
      refine d_done (by kernel_rfl) ?_
      refine c_next ?_
      refine c_condF rfl ?_
      refine c_skip ?_
      refine x_norm ?_
      refine c_next ?_
      refine c_reg ?_
      refine sv (r_addI (a := xl1_t7) (b := 1) rfl rfl) ?_
      refine sv (r_move (v := .int _ _) rfl) ?_
      refine s_nil ?_
      refine l_end (m' := kl25) (Nat.lt_succ_self _) ?_
      rw [← Option.some.inj h] at hyl25
      obtain ⟨hO58, e58⟩ := hO53.drop1
      exact ⟨(w64 (xl1_t7 + 1)), hyl25, rfl, rfl, rfl, rfl, hO58, (e25.trans (e26.trans (e40.trans (e43.trans (e51.trans (e53.trans e58))))))⟩
    replace h := iF (nt hb55) h
    refine dS (i := 4) (listed' := #[I_,I_,I_,I_,I_,O_,O_,O_,O_,O_,O_,O_,O_,O_,O_,O_,O_,O_]) rfl 15 hP52 (congrArg Value.bool (nnf hb55)) hK54 ?_
    refine dS (i := 5) (listed' := #[I_,I_,I_,I_,I_,I_,O_,O_,O_,O_,O_,O_,O_,O_,O_,O_,O_,O_]) rfl 15 hP52 (congrArg Value.bool (nnf hb55)) hK54 ?_
    refine dS (i := 6) (listed' := #[I_,I_,I_,I_,I_,I_,I_,O_,O_,O_,O_,O_,O_,O_,O_,O_,O_,O_]) rfl 15 hP52 (congrArg Value.bool (nnf hb55)) hK54 ?_
    refine dU (i := 7) (listed' := #[I_,I_,I_,I_,I_,I_,I_,I_,O_,O_,O_,O_,O_,O_,O_,O_,O_,O_]) rfl 18 hP52 hK54 ?_
    refine dU (i := 8) (listed' := #[I_,I_,I_,I_,I_,I_,I_,I_,I_,O_,O_,O_,O_,O_,O_,O_,O_,O_]) rfl 18 hP52 hK54 ?_
    refine dU (i := 9) (listed' := #[I_,I_,I_,I_,I_,I_,I_,I_,I_,I_,O_,O_,O_,O_,O_,O_,O_,O_]) rfl 18 hP52 hK54 ?_
    refine dU (i := 10) (listed' := #[I_,I_,I_,I_,I_,I_,I_,I_,I_,I_,I_,O_,O_,O_,O_,O_,O_,O_]) rfl 18 hP52 hK54 ?_
    refine dU (i := 11) (listed' := #[I_,I_,I_,I_,I_,I_,I_,I_,I_,I_,I_,I_,O_,O_,O_,O_,O_,O_]) rfl 18 hP52 hK54 ?_
    refine dU (i := 12) (listed' := #[I_,I_,I_,I_,I_,I_,I_,I_,I_,I_,I_,I_,I_,O_,O_,O_,O_,O_]) rfl 18 hP52 hK54 ?_
    refine dU (i := 13) (listed' := #[I_,I_,I_,I_,I_,I_,I_,I_,I_,I_,I_,I_,I_,I_,O_,O_,O_,O_]) rfl 18 hP52 hK54 ?_
    refine dU (i := 14) (listed' := #[I_,I_,I_,I_,I_,I_,I_,I_,I_,I_,I_,I_,I_,I_,I_,O_,O_,O_]) rfl 18 hP52 hK54 ?_
    refine dU (i := 15) (listed' := #[I_,I_,I_,I_,I_,I_,I_,I_,I_,I_,I_,I_,I_,I_,I_,I_,O_,O_]) rfl 18 hP52 hK54 ?_
    refine dS (i := 16) (listed' := #[I_,I_,I_,I_,I_,I_,I_,I_,I_,I_,I_,I_,I_,I_,I_,I_,I_,O_]) rfl 15 hP52 (congrArg Value.bool (nnf hb55)) hK54 ?_
    refine dT (i := 17) (listed' := #[I_,I_,I_,I_,I_,I_,I_,I_,I_,I_,I_,I_,I_,I_,I_,I_,I_,I_]) rfl hP52 hK54 (fun wS hS => (r_pickT (v := .bool true) (by exact (congrArg Value.bool (nnf hb55))) rfl)) ?_
    refine d_done (by kernel_rfl) ?_
    refine c_next ?_
    refine c_condT rfl ?_
    refine c_seq ?_
    refine c_reg ?_
    refine sv (r_assign (v := .bool false) rfl) ?_
    refine s_nil ?_
    refine c_next ?_
    refine c_ret ?_
    refine r_block ?_
    refine r_then ?_
    refine r_then ?_
    refine r_block ?_
    refine r_then ?_
    replace h := crossE h hyl25
    refine e_1 (v := .bool false) Try.results39 rfl ?_
    obtain ⟨hO59, e59⟩ := hO53.drop1
    rw [← Option.some.inj h]
    exact ⟨rfl, hO59, (e25.trans (e26.trans (e40.trans (e43.trans (e51.trans (e53.trans e59))))))⟩
  replace h := iF (nt hb28) h
  refine c_condF (congrArg Value.bool hb28) ?_
  refine c_exit ?_
  refine x_then ?_
  refine x_then ?_
  refine x_same ?_
  replace h := crossE h hyl25
  refine c_next ?_
  refine c_seq ?_
  refine c_reg ?_
  refine sv (r_move (v := .slice _ _ _) rfl) ?_
  refine sv (r_lenL (xs := x0) Try.underlying25 rfl hm0p) ?_
  refine c_leq rfl rfl (fun h33 => ?_) (fun h33 => ?_)
  · replace h := iT h33 h
    refine sv (r_assign (v := .bool true) rfl) ?_
    refine s_nil ?_
    refine c_next ?_
    refine c_ret ?_
    refine e_1 (v := .bool true) Try.results39 rfl ?_
    rw [← Option.some.inj h]
    exact ⟨rfl, hO26, (e25.trans e26)⟩
  replace h := iF (Int.not_le.2 h33) h
  refine sv (r_assign (v := .bool false) rfl) ?_
  refine s_nil ?_
  refine c_next ?_
  refine c_ret ?_
  refine e_1 (v := .bool false) Try.results39 rfl ?_
  rw [← Option.some.inj h]
  exact ⟨rfl, hO26, (e25.trans e26)⟩
theorem c_claim_Right (x0 : T_claim_State) (aP0 : Option Addr) (mP0 cP0 : Nat) (aP1 : Option Addr) (mP1 cP1 : Nat)  (r : Bool) (h : F_claim_Right x0 = some r) (w : World) (L : Hp) (hm0p : x0.Roster.length = mP0) (hc0p : mP0 ≤ cP0) (hR0p : Rd w L aP0 (fl e_roster_Device x0.Roster)) (hm1p : x0.Tickets.length = mP1) (hc1p : mP1 ≤ cP1) (hR1p : Rd w L aP1 (fl e_ticket_Ticket x0.Tickets)) (hO : Own w L) :
    Calls Try.prog 16 #[(.agg #[(.int .i64 x0.Epoch), (.int .i64 x0.Owner), (.int .i64 x0.Next), (.slice aP0 mP0 cP0), (.slice aP1 mP1 cP1)])] w fun en w' => en = .returned (.bool r) ∧ Own w' L ∧ Ext w L w' L := by
  unfold F_claim_Right at h
  refine enter (n := 77) [(.agg #[(.int .i64 x0.Epoch), (.int .i64 x0.Owner), (.int .i64 x0.Next), (.slice aP0 mP0 cP0), (.slice aP1 mP1 cP1)])] Try.func16 rfl rfl (Nat.le_of_ble_eq_true rfl) ?_
  refine c_seq ?_
  refine c_reg ?_
  refine s_box (v := (.agg #[(.int .i64 x0.Epoch), (.int .i64 x0.Owner), (.int .i64 x0.Next), (.slice aP0 mP0 cP0), (.slice aP1 mP1 cP1)])) rfl hO ?_
  intro b1 w2 hz1 hl1 hO2 e2
  have hO3 : Own w2 ((b1, .cells #[(.int .i64 x0.Epoch), (.int .i64 x0.Owner), (.int .i64 x0.Next), (.slice aP0 mP0 cP0), (.slice aP1 mP1 cP1)] 27 (0, 0)) :: L) := hO2
  refine sv (r_assign (v := .bool false) rfl) ?_
  refine s_nil ?_
  refine c_next ?_
  refine c_seq ?_
  have hR0p := (hR0p.ext e2)
  have hR1p := (hR1p.ext e2)
  obtain ⟨oc15, G15, hG15, h, hr15⟩ := bindG h
  refine c_cutL hO3 (fun Lc f0 g w' => ∃ (xc1_t35 : Bool), (G15 xc1_t35 = some r) ∧ g 1 = (.pointer (some ⟨b1, 0, none⟩)) ∧ g 35 = (.bool xc1_t35) ∧ Own w' ((b1, .cells #[(.int .i64 x0.Epoch), (.int .i64 x0.Owner), (.int .i64 x0.Next), (.slice aP0 mP0 cP0), (.slice aP1 mP1 cP1)] 27 (0, 0)) :: L) ∧ Ext w2 Lc w' ((b1, .cells #[(.int .i64 x0.Epoch), (.int .i64 x0.Owner), (.int .i64 x0.Next), (.slice aP0 mP0 cP0), (.slice aP1 mP1 cP1)] 27 (0, 0)) :: L)) ?_ ?_
  · skip
    refine c_reg ?_
    refine sv (r_fieldAddr Try.underlying27 rfl I3 (by decide) rfl) ?_
    refine s_load1 (v := .int _ _) Try.underlying3 rfl rfl (cellB (hO3.get (i := 0) rfl) rfl rfl) ?_
    refine c_lss rfl rfl (fun h8 => ?_) (fun h8 => ?_)
    · replace h := iT h8 h
      refine sv (r_move (v := .bool true) rfl) ?_
      refine g_skip 9 (by rfl) rfl (by rfl) ?_
      refine g_skip 9 (by rfl) rfl (by rfl) ?_
      refine g_skip 9 (by rfl) rfl (by rfl) ?_
      refine sv (r_pickT (v := .bool true) rfl rfl) ?_
      refine sv (r_move (v := .bool true) rfl) ?_
      refine g_skip 14 (by rfl) rfl (by rfl) ?_
      refine g_skip 14 (by rfl) rfl (by rfl) ?_
      refine g_skip 14 (by rfl) rfl (by rfl) ?_
      refine sv (r_pickT (v := .bool true) rfl rfl) ?_
      refine sv (r_move (v := .bool true) rfl) ?_
      refine g_skip 19 (by rfl) rfl (by rfl) ?_
      refine g_skip 19 (by rfl) rfl (by rfl) ?_
      refine g_skip 19 (by rfl) rfl (by rfl) ?_
      refine sv (r_pickT (v := .bool true) rfl rfl) ?_
      refine sv (r_move (v := .bool true) rfl) ?_
      refine g_skip 24 (by rfl) rfl (by rfl) ?_
      refine g_skip 24 (by rfl) rfl (by rfl) ?_
      refine g_skip 24 (by rfl) rfl (by rfl) ?_
      refine g_skip 24 (by rfl) rfl (by rfl) ?_
      refine sv (r_pickT (v := .bool true) rfl rfl) ?_
      refine sv (r_move (v := .bool true) rfl) ?_
      refine g_skip 30 (by rfl) rfl (by rfl) ?_
      refine g_skip 30 (by rfl) rfl (by rfl) ?_
      refine g_skip 30 (by rfl) rfl (by rfl) ?_
      refine g_skip 30 (by rfl) rfl (by rfl) ?_
      refine sv (r_pickT (v := .bool true) rfl rfl) ?_
      refine s_nil ?_
      refine c_next ?_
      rw [← Option.some.inj h] at hr15
      exact ⟨_, rfl, true, hr15, rfl, rfl, hO3, (Ext.refl _ _)⟩
    replace h := iF (Int.not_lt.2 h8) h
    refine sv (r_move (v := .bool false) rfl) ?_
    refine g_do 9 (by rfl) rfl ?_
    refine sv (r_fieldAddr Try.underlying27 rfl I3 (by decide) rfl) ?_
    refine g_do 9 (by rfl) rfl ?_
    refine s_load1 (v := .int _ _) Try.underlying3 rfl rfl (cellB (hO3.get (i := 0) rfl) rfl rfl) ?_
    refine g_do 9 (by rfl) rfl ?_
    refine c_gtr rfl rfl (fun h12 => ?_) (fun h12 => ?_)
    · replace h := iT h12 h
      refine sv (r_pickF (v := .bool true) rfl rfl) ?_
      refine sv (r_move (v := .bool true) rfl) ?_
      refine g_skip 14 (by rfl) rfl (by rfl) ?_
      refine g_skip 14 (by rfl) rfl (by rfl) ?_
      refine g_skip 14 (by rfl) rfl (by rfl) ?_
      refine sv (r_pickT (v := .bool true) rfl rfl) ?_
      refine sv (r_move (v := .bool true) rfl) ?_
      refine g_skip 19 (by rfl) rfl (by rfl) ?_
      refine g_skip 19 (by rfl) rfl (by rfl) ?_
      refine g_skip 19 (by rfl) rfl (by rfl) ?_
      refine sv (r_pickT (v := .bool true) rfl rfl) ?_
      refine sv (r_move (v := .bool true) rfl) ?_
      refine g_skip 24 (by rfl) rfl (by rfl) ?_
      refine g_skip 24 (by rfl) rfl (by rfl) ?_
      refine g_skip 24 (by rfl) rfl (by rfl) ?_
      refine g_skip 24 (by rfl) rfl (by rfl) ?_
      refine sv (r_pickT (v := .bool true) rfl rfl) ?_
      refine sv (r_move (v := .bool true) rfl) ?_
      refine g_skip 30 (by rfl) rfl (by rfl) ?_
      refine g_skip 30 (by rfl) rfl (by rfl) ?_
      refine g_skip 30 (by rfl) rfl (by rfl) ?_
      refine g_skip 30 (by rfl) rfl (by rfl) ?_
      refine sv (r_pickT (v := .bool true) rfl rfl) ?_
      refine s_nil ?_
      refine c_next ?_
      rw [← Option.some.inj h] at hr15
      exact ⟨_, rfl, true, hr15, rfl, rfl, hO3, (Ext.refl _ _)⟩
    replace h := iF (Int.not_lt.2 h12) h
    refine sv (r_pickF (v := .bool false) rfl rfl) ?_
    refine sv (r_move (v := .bool false) rfl) ?_
    refine g_do 14 (by rfl) rfl ?_
    refine sv (r_fieldAddr Try.underlying27 rfl I3 (by decide) rfl) ?_
    refine g_do 14 (by rfl) rfl ?_
    refine s_load1 (v := .int _ _) Try.underlying3 rfl rfl (cellB (hO3.get (i := 0) rfl) rfl rfl) ?_
    refine g_do 14 (by rfl) rfl ?_
    refine c_lss rfl rfl (fun h17 => ?_) (fun h17 => ?_)
    · replace h := iT h17 h
      refine sv (r_pickF (v := .bool true) rfl rfl) ?_
      refine sv (r_move (v := .bool true) rfl) ?_
      refine g_skip 19 (by rfl) rfl (by rfl) ?_
      refine g_skip 19 (by rfl) rfl (by rfl) ?_
      refine g_skip 19 (by rfl) rfl (by rfl) ?_
      refine sv (r_pickT (v := .bool true) rfl rfl) ?_
      refine sv (r_move (v := .bool true) rfl) ?_
      refine g_skip 24 (by rfl) rfl (by rfl) ?_
      refine g_skip 24 (by rfl) rfl (by rfl) ?_
      refine g_skip 24 (by rfl) rfl (by rfl) ?_
      refine g_skip 24 (by rfl) rfl (by rfl) ?_
      refine sv (r_pickT (v := .bool true) rfl rfl) ?_
      refine sv (r_move (v := .bool true) rfl) ?_
      refine g_skip 30 (by rfl) rfl (by rfl) ?_
      refine g_skip 30 (by rfl) rfl (by rfl) ?_
      refine g_skip 30 (by rfl) rfl (by rfl) ?_
      refine g_skip 30 (by rfl) rfl (by rfl) ?_
      refine sv (r_pickT (v := .bool true) rfl rfl) ?_
      refine s_nil ?_
      refine c_next ?_
      rw [← Option.some.inj h] at hr15
      exact ⟨_, rfl, true, hr15, rfl, rfl, hO3, (Ext.refl _ _)⟩
    replace h := iF (Int.not_lt.2 h17) h
    refine sv (r_pickF (v := .bool false) rfl rfl) ?_
    refine sv (r_move (v := .bool false) rfl) ?_
    refine g_do 19 (by rfl) rfl ?_
    refine sv (r_fieldAddr Try.underlying27 rfl I3 (by decide) rfl) ?_
    refine g_do 19 (by rfl) rfl ?_
    refine s_load1 (v := .int _ _) Try.underlying3 rfl rfl (cellB (hO3.get (i := 0) rfl) rfl rfl) ?_
    refine g_do 19 (by rfl) rfl ?_
    refine c_gtr rfl rfl (fun h22 => ?_) (fun h22 => ?_)
    · replace h := iT h22 h
      refine sv (r_pickF (v := .bool true) rfl rfl) ?_
      refine sv (r_move (v := .bool true) rfl) ?_
      refine g_skip 24 (by rfl) rfl (by rfl) ?_
      refine g_skip 24 (by rfl) rfl (by rfl) ?_
      refine g_skip 24 (by rfl) rfl (by rfl) ?_
      refine g_skip 24 (by rfl) rfl (by rfl) ?_
      refine sv (r_pickT (v := .bool true) rfl rfl) ?_
      refine sv (r_move (v := .bool true) rfl) ?_
      refine g_skip 30 (by rfl) rfl (by rfl) ?_
      refine g_skip 30 (by rfl) rfl (by rfl) ?_
      refine g_skip 30 (by rfl) rfl (by rfl) ?_
      refine g_skip 30 (by rfl) rfl (by rfl) ?_
      refine sv (r_pickT (v := .bool true) rfl rfl) ?_
      refine s_nil ?_
      refine c_next ?_
      rw [← Option.some.inj h] at hr15
      exact ⟨_, rfl, true, hr15, rfl, rfl, hO3, (Ext.refl _ _)⟩
    replace h := iF (Int.not_lt.2 h22) h
    refine sv (r_pickF (v := .bool false) rfl rfl) ?_
    refine sv (r_move (v := .bool false) rfl) ?_
    refine g_do 24 (by rfl) rfl ?_
    refine sv (r_fieldAddr Try.underlying27 rfl I24 (by decide) rfl) ?_
    refine g_do 24 (by rfl) rfl ?_
    refine s_load1 (v := .slice _ _ _) Try.underlying24 rfl rfl (cellB (hO3.get (i := 0) rfl) rfl rfl) ?_
    refine g_do 24 (by rfl) rfl ?_
    obtain ⟨y27, hy27, h⟩ := bindE h
    refine s_call cf38 rfl (c_roster_Right x0.Roster aP0 mP0 cP0 _ hy27 _ _ hm0p hc0p hR0p hO3) ?_
    rintro er27 w16 ⟨rfl, hO16, e16⟩
    refine ⟨_, rfl, ?_⟩
    refine g_do 24 (by rfl) rfl ?_
    refine sv (r_not (b := y27) rfl) ?_
    refine sv (r_pickF (v := .bool _) rfl rfl) ?_
    refine sv (r_move (v := .bool _) rfl) ?_
    rcases Bool.eq_false_or_eq_true (y27) with hb17 | hb17
    · replace h := iT hb17 h
      refine g_do 30 (by rfl) (congrArg Value.bool (nnt hb17)) ?_
      refine sv (r_fieldAddr Try.underlying27 rfl I25 (by decide) rfl) ?_
      refine g_do 30 (by rfl) (congrArg Value.bool (nnt hb17)) ?_
      refine s_load1 (v := .slice _ _ _) Try.underlying25 rfl rfl (cellB (hO16.get (i := 0) rfl) rfl rfl) ?_
      refine g_do 30 (by rfl) (congrArg Value.bool (nnt hb17)) ?_
      obtain ⟨y33, hy33, h⟩ := bindE h
      refine s_call cf39 rfl (c_ticket_Right x0.Tickets aP1 mP1 cP1 _ hy33 _ _ hm1p hc1p (hR1p.ext e16) hO16) ?_
      rintro er33 w18 ⟨rfl, hO18, e18⟩
      refine ⟨_, rfl, ?_⟩
      refine g_do 30 (by rfl) (congrArg Value.bool (nnt hb17)) ?_
      refine sv (r_not (b := y33) rfl) ?_
      refine sv (r_pickF (v := .bool _) (by exact (congrArg Value.bool (nnt hb17))) rfl) ?_
      refine s_nil ?_
      refine c_next ?_
      rw [← Option.some.inj h] at hr15
      exact ⟨_, rfl, (!y33), hr15, rfl, rfl, hO18, (e16.trans e18)⟩
    replace h := iF (nt hb17) h
    refine g_skip 30 (by rfl) (congrArg Value.bool (nnf hb17)) (by rfl) ?_
    refine g_skip 30 (by rfl) (congrArg Value.bool (nnf hb17)) (by rfl) ?_
    refine g_skip 30 (by rfl) (congrArg Value.bool (nnf hb17)) (by rfl) ?_
    refine g_skip 30 (by rfl) (congrArg Value.bool (nnf hb17)) (by rfl) ?_
    refine sv (r_pickT (v := .bool true) (by exact (congrArg Value.bool (nnf hb17))) rfl) ?_
    refine s_nil ?_
    refine c_next ?_
    rw [← Option.some.inj h] at hr15
    exact ⟨_, rfl, true, hr15, rfl, rfl, hO16, e16⟩
  intro gg15 w15 hI15
  clear h hr15
  obtain ⟨xc1_t35, h, hsc1_1, hsc1_35, hO15, e15⟩ := hI15
  replace h := hG_ hG15 h; clear hG15
  obtain ⟨qq15, rfl⟩ := fr2 hsc1_1 hsc1_35
  clear hsc1_1 hsc1_35
  rcases Bool.eq_false_or_eq_true (xc1_t35) with hb19 | hb19
  · replace h := iT hb19 h
    refine c_condT (congrArg Value.bool hb19) ?_
    refine c_seq ?_
    refine c_reg ?_
    refine sv (r_assign (v := .bool false) rfl) ?_
    refine s_nil ?_
    refine c_next ?_
    refine c_ret ?_
    refine r_then ?_
    refine e_1 (v := .bool false) Try.results16 rfl ?_
    obtain ⟨hO20, e20⟩ := hO15.drop1
    rw [← Option.some.inj h]
    exact ⟨rfl, hO20, (e2.trans (e15.trans e20))⟩
  replace h := iF (nt hb19) h
  refine c_condF (congrArg Value.bool hb19) ?_
  refine c_skip ?_
  refine c_next ?_
  have hR0p := (hR0p.ext e15)
  have hR1p := (hR1p.ext e15)
  obtain ⟨oc25, G25, hG25, h, hr25⟩ := bindS h
  refine c_cutL hO15 (fun Lc f0 g w' => (G25 () = some r) ∧ g 1 = (.pointer (some ⟨b1, 0, none⟩)) ∧ Own w' ((b1, .cells #[(.int .i64 x0.Epoch), (.int .i64 x0.Owner), (.int .i64 x0.Next), (.slice aP0 mP0 cP0), (.slice aP1 mP1 cP1)] 27 (0, 0)) :: L) ∧ Ext w15 Lc w' ((b1, .cells #[(.int .i64 x0.Epoch), (.int .i64 x0.Owner), (.int .i64 x0.Next), (.slice aP0 mP0 cP0), (.slice aP1 mP1 cP1)] 27 (0, 0)) :: L)) ?_ ?_
  · skip
    refine c_seq ?_
    refine c_reg ?_
    refine sv (r_fieldAddr Try.underlying27 rfl I25 (by decide) rfl) ?_
    refine s_load1 (v := .slice _ _ _) Try.underlying25 rfl rfl (cellB (hO15.get (i := 0) rfl) rfl rfl) ?_
    refine sv (r_lenL (xs := x0.Tickets) Try.underlying25 rfl hm1p) ?_
    refine sv (r_assign (v := .int _ _) rfl) ?_
    refine s_nil ?_
    refine c_next ?_
    refine c_seq ?_
    refine d_startL hO15 hO15 19 (by kernel_rfl) (pk_then (pk_then pk_body)) ?_
    intro hP27 wd27 hK27 hO26 e26
    refine dT (i := 0) (listed' := #[I_,O_,O_,O_,O_,O_,O_,O_,O_,O_,O_,O_,O_,O_,O_,O_,O_,O_,O_]) rfl hP27 hK27 (fun wS hS => (r_move (v := .int _ _) rfl)) ?_
    refine dt_gtr (i := 1) (listed' := #[I_,I_,O_,O_,O_,O_,O_,O_,O_,O_,O_,O_,O_,O_,O_,O_,O_,O_,O_]) (by rfl) (by kernel_rfl) (by rfl) hP27.u rfl hK27 rfl rfl (fun h40 => ?_) (fun h40 => ?_)
    · replace h := iT h40 h
      refine dT (i := 2) (listed' := #[I_,I_,I_,O_,O_,O_,O_,O_,O_,O_,O_,O_,O_,O_,O_,O_,O_,O_,O_]) rfl hP27 hK27 (fun wS hS => (r_move (v := .bool true) rfl)) ?_
      refine dG (i := 3) (listed' := #[I_,I_,I_,I_,O_,O_,O_,O_,O_,O_,O_,O_,O_,O_,O_,O_,O_,O_,O_]) rfl 41 hP27 rfl hK27 (fun wS hS => (r_fieldAddr Try.underlying27 rfl I25 (by decide) rfl)) ?_
      refine dG (i := 4) (listed' := #[I_,I_,I_,I_,I_,O_,O_,O_,O_,O_,O_,O_,O_,O_,O_,O_,O_,O_,O_]) rfl 41 hP27 rfl hK27 (fun wS hS => (r_load1 (v := .slice _ _ _) Try.underlying25 rfl rfl (cellB (hS.own.get (i := 0) rfl) rfl rfl))) ?_
      refine dG (i := 5) (listed' := #[I_,I_,I_,I_,I_,I_,O_,O_,O_,O_,O_,O_,O_,O_,O_,O_,O_,O_,O_]) rfl 41 hP27 rfl hK27 (fun wS hS => (r_move (v := .int _ _) rfl)) ?_
      refine dG (i := 6) (listed' := #[I_,I_,I_,I_,I_,I_,I_,O_,O_,O_,O_,O_,O_,O_,O_,O_,O_,O_,O_]) rfl 41 hP27 rfl hK27 (fun wS hS => (r_subI (a := ((x0.Tickets.length : Int))) (b := 1) rfl rfl)) ?_
      obtain ⟨y46, hy46, h⟩ := bindE h
      obtain ⟨ad46, had46, hk46⟩ := ix_known (e := e_ticket_Ticket) (Rd.cs hR1p) e_ticket_Ticket_len (by decide) hy46
      have hx46 : Value.slice aP1 mP1 cP1 = .slice (some ad46) mP1 cP1 := by rw [had46]
      refine dG (i := 7) (listed' := #[I_,I_,I_,I_,I_,I_,I_,I_,O_,O_,O_,O_,O_,O_,O_,O_,O_,O_,O_]) rfl 41 hP27 rfl hK27 (fun wS hS => (ra_idx (xs := x0.Tickets) (i := (w64 (((x0.Tickets.length : Int)) - 1))) Try.underlying25 I59 (by exact hx46) (by rfl) hm1p hy46)) ?_
      refine dG (i := 8) (listed' := #[I_,I_,I_,I_,I_,I_,I_,I_,I_,O_,O_,O_,O_,O_,O_,O_,O_,O_,O_]) rfl 41 hP27 rfl hK27 (fun wS hS => (r_fieldAddr Try.underlying59 rfl I3 (by decide) rfl)) ?_
      refine dG (i := 9) (listed' := #[I_,I_,I_,I_,I_,I_,I_,I_,I_,I_,O_,O_,O_,O_,O_,O_,O_,O_,O_]) rfl 41 hP27 rfl hK27 (fun wS hS => (r_load1 (v := .int _ _) Try.underlying3 rfl rfl (cellP (hk46 _ (hR1p.kept hS)) 0 rfl))) ?_
      refine dG (i := 10) (listed' := #[I_,I_,I_,I_,I_,I_,I_,I_,I_,I_,I_,O_,O_,O_,O_,O_,O_,O_,O_]) rfl 41 hP27 rfl hK27 (fun wS hS => (r_fieldAddr Try.underlying27 rfl I3 (by decide) rfl)) ?_
      refine dG (i := 11) (listed' := #[I_,I_,I_,I_,I_,I_,I_,I_,I_,I_,I_,I_,O_,O_,O_,O_,O_,O_,O_]) rfl 41 hP27 rfl hK27 (fun wS hS => (r_load1 (v := .int _ _) Try.underlying3 rfl rfl (cellB (hS.own.get (i := 0) rfl) rfl rfl))) ?_
      refine dt_geqG (i := 12) (listed' := #[I_,I_,I_,I_,I_,I_,I_,I_,I_,I_,I_,I_,I_,O_,O_,O_,O_,O_,O_]) (by rfl) (by kernel_rfl) (by rfl) hP27.u 41 (by rfl) rfl hK27 rfl rfl (fun h51 => ?_) (fun h51 => ?_)
      · replace h := iT h51 h
        refine dG (i := 13) (listed' := #[I_,I_,I_,I_,I_,I_,I_,I_,I_,I_,I_,I_,I_,I_,O_,O_,O_,O_,O_]) rfl 41 hP27 rfl hK27 (fun wS hS => (r_move (v := .bool true) rfl)) ?_
        refine dS (i := 14) (listed' := #[I_,I_,I_,I_,I_,I_,I_,I_,I_,I_,I_,I_,I_,I_,I_,O_,O_,O_,O_]) rfl 52 hP27 rfl hK27 ?_
        refine dS (i := 15) (listed' := #[I_,I_,I_,I_,I_,I_,I_,I_,I_,I_,I_,I_,I_,I_,I_,I_,O_,O_,O_]) rfl 52 hP27 rfl hK27 ?_
        refine dS (i := 16) (listed' := #[I_,I_,I_,I_,I_,I_,I_,I_,I_,I_,I_,I_,I_,I_,I_,I_,I_,O_,O_]) rfl 52 hP27 rfl hK27 ?_
        refine dG (i := 17) (listed' := #[I_,I_,I_,I_,I_,I_,I_,I_,I_,I_,I_,I_,I_,I_,I_,I_,I_,I_,O_]) rfl 41 hP27 rfl hK27 (fun wS hS => (r_pickT (v := .bool true) rfl rfl)) ?_
        refine dT (i := 18) (listed' := #[I_,I_,I_,I_,I_,I_,I_,I_,I_,I_,I_,I_,I_,I_,I_,I_,I_,I_,I_]) rfl hP27 hK27 (fun wS hS => (r_pickT (v := .bool true) rfl rfl)) ?_
        refine d_done (by kernel_rfl) ?_
        refine c_next ?_
        refine c_condT rfl ?_
        refine c_seq ?_
        refine c_reg ?_
        refine sv (r_assign (v := .bool false) rfl) ?_
        refine s_nil ?_
        refine c_next ?_
        refine c_ret ?_
        refine r_then ?_
        replace h := crossC h hr25
        refine e_1 (v := .bool false) Try.results16 rfl ?_
        obtain ⟨hO28, e28⟩ := hO26.drop1
        rw [← Option.some.inj h]
        exact ⟨rfl, hO28, (e2.trans (e15.trans (e26.trans e28)))⟩
      replace h := iF (Int.not_le.2 h51) h
      refine dG (i := 13) (listed' := #[I_,I_,I_,I_,I_,I_,I_,I_,I_,I_,I_,I_,I_,I_,O_,O_,O_,O_,O_]) rfl 41 hP27 rfl hK27 (fun wS hS => (r_move (v := .bool false) rfl)) ?_
      refine dG (i := 14) (listed' := #[I_,I_,I_,I_,I_,I_,I_,I_,I_,I_,I_,I_,I_,I_,I_,O_,O_,O_,O_]) rfl 52 hP27 rfl hK27 (fun wS hS => (r_fieldAddr Try.underlying27 rfl I3 (by decide) rfl)) ?_
      refine dG (i := 15) (listed' := #[I_,I_,I_,I_,I_,I_,I_,I_,I_,I_,I_,I_,I_,I_,I_,I_,O_,O_,O_]) rfl 52 hP27 rfl hK27 (fun wS hS => (r_load1 (v := .int _ _) Try.underlying3 rfl rfl (cellB (hS.own.get (i := 0) rfl) rfl rfl))) ?_
      refine dt_eqlG (i := 16) (listed' := #[I_,I_,I_,I_,I_,I_,I_,I_,I_,I_,I_,I_,I_,I_,I_,I_,I_,O_,O_]) (by rfl) (by kernel_rfl) (by rfl) hP27.u 52 (by rfl) rfl hK27 rfl rfl (fun h55 => ?_) (fun h55 => ?_)
      · replace h := iT h55 h
        refine dG (i := 17) (listed' := #[I_,I_,I_,I_,I_,I_,I_,I_,I_,I_,I_,I_,I_,I_,I_,I_,I_,I_,O_]) rfl 41 hP27 rfl hK27 (fun wS hS => (r_pickF (v := .bool true) rfl rfl)) ?_
        refine dT (i := 18) (listed' := #[I_,I_,I_,I_,I_,I_,I_,I_,I_,I_,I_,I_,I_,I_,I_,I_,I_,I_,I_]) rfl hP27 hK27 (fun wS hS => (r_pickT (v := .bool true) rfl rfl)) ?_
        refine d_done (by kernel_rfl) ?_
        refine c_next ?_
        refine c_condT rfl ?_
        refine c_seq ?_
        refine c_reg ?_
        refine sv (r_assign (v := .bool false) rfl) ?_
        refine s_nil ?_
        refine c_next ?_
        refine c_ret ?_
        refine r_then ?_
        replace h := crossC h hr25
        refine e_1 (v := .bool false) Try.results16 rfl ?_
        obtain ⟨hO29, e29⟩ := hO26.drop1
        rw [← Option.some.inj h]
        exact ⟨rfl, hO29, (e2.trans (e15.trans (e26.trans e29)))⟩
      replace h := iF h55 h
      refine dG (i := 17) (listed' := #[I_,I_,I_,I_,I_,I_,I_,I_,I_,I_,I_,I_,I_,I_,I_,I_,I_,I_,O_]) rfl 41 hP27 rfl hK27 (fun wS hS => (r_pickF (v := .bool false) rfl rfl)) ?_
      refine dT (i := 18) (listed' := #[I_,I_,I_,I_,I_,I_,I_,I_,I_,I_,I_,I_,I_,I_,I_,I_,I_,I_,I_]) rfl hP27 hK27 (fun wS hS => (r_pickT (v := .bool false) rfl rfl)) ?_
      refine d_done (by kernel_rfl) ?_
      refine c_next ?_
      refine c_condF rfl ?_
      refine c_skip ?_
      refine c_next ?_
      rw [← Option.some.inj h] at hr25
      exact ⟨_, rfl, hr25, rfl, hO26, e26⟩
    replace h := iF (Int.not_lt.2 h40) h
    refine dT (i := 2) (listed' := #[I_,I_,I_,O_,O_,O_,O_,O_,O_,O_,O_,O_,O_,O_,O_,O_,O_,O_,O_]) rfl hP27 hK27 (fun wS hS => (r_move (v := .bool false) rfl)) ?_
    refine dS (i := 3) (listed' := #[I_,I_,I_,I_,O_,O_,O_,O_,O_,O_,O_,O_,O_,O_,O_,O_,O_,O_,O_]) rfl 41 hP27 rfl hK27 ?_
    refine dS (i := 4) (listed' := #[I_,I_,I_,I_,I_,O_,O_,O_,O_,O_,O_,O_,O_,O_,O_,O_,O_,O_,O_]) rfl 41 hP27 rfl hK27 ?_
    refine dS (i := 5) (listed' := #[I_,I_,I_,I_,I_,I_,O_,O_,O_,O_,O_,O_,O_,O_,O_,O_,O_,O_,O_]) rfl 41 hP27 rfl hK27 ?_
    refine dS (i := 6) (listed' := #[I_,I_,I_,I_,I_,I_,I_,O_,O_,O_,O_,O_,O_,O_,O_,O_,O_,O_,O_]) rfl 41 hP27 rfl hK27 ?_
    refine dS (i := 7) (listed' := #[I_,I_,I_,I_,I_,I_,I_,I_,O_,O_,O_,O_,O_,O_,O_,O_,O_,O_,O_]) rfl 41 hP27 rfl hK27 ?_
    refine dS (i := 8) (listed' := #[I_,I_,I_,I_,I_,I_,I_,I_,I_,O_,O_,O_,O_,O_,O_,O_,O_,O_,O_]) rfl 41 hP27 rfl hK27 ?_
    refine dS (i := 9) (listed' := #[I_,I_,I_,I_,I_,I_,I_,I_,I_,I_,O_,O_,O_,O_,O_,O_,O_,O_,O_]) rfl 41 hP27 rfl hK27 ?_
    refine dS (i := 10) (listed' := #[I_,I_,I_,I_,I_,I_,I_,I_,I_,I_,I_,O_,O_,O_,O_,O_,O_,O_,O_]) rfl 41 hP27 rfl hK27 ?_
    refine dS (i := 11) (listed' := #[I_,I_,I_,I_,I_,I_,I_,I_,I_,I_,I_,I_,O_,O_,O_,O_,O_,O_,O_]) rfl 41 hP27 rfl hK27 ?_
    refine dS (i := 12) (listed' := #[I_,I_,I_,I_,I_,I_,I_,I_,I_,I_,I_,I_,I_,O_,O_,O_,O_,O_,O_]) rfl 41 hP27 rfl hK27 ?_
    refine dS (i := 13) (listed' := #[I_,I_,I_,I_,I_,I_,I_,I_,I_,I_,I_,I_,I_,I_,O_,O_,O_,O_,O_]) rfl 41 hP27 rfl hK27 ?_
    refine dU (i := 14) (listed' := #[I_,I_,I_,I_,I_,I_,I_,I_,I_,I_,I_,I_,I_,I_,I_,O_,O_,O_,O_]) rfl 52 hP27 hK27 ?_
    refine dU (i := 15) (listed' := #[I_,I_,I_,I_,I_,I_,I_,I_,I_,I_,I_,I_,I_,I_,I_,I_,O_,O_,O_]) rfl 52 hP27 hK27 ?_
    refine dU (i := 16) (listed' := #[I_,I_,I_,I_,I_,I_,I_,I_,I_,I_,I_,I_,I_,I_,I_,I_,I_,O_,O_]) rfl 52 hP27 hK27 ?_
    refine dS (i := 17) (listed' := #[I_,I_,I_,I_,I_,I_,I_,I_,I_,I_,I_,I_,I_,I_,I_,I_,I_,I_,O_]) rfl 41 hP27 rfl hK27 ?_
    refine dT (i := 18) (listed' := #[I_,I_,I_,I_,I_,I_,I_,I_,I_,I_,I_,I_,I_,I_,I_,I_,I_,I_,I_]) rfl hP27 hK27 (fun wS hS => (r_pickF (v := .bool false) rfl rfl)) ?_
    refine d_done (by kernel_rfl) ?_
    refine c_next ?_
    refine c_condF rfl ?_
    refine c_skip ?_
    refine c_next ?_
    rw [← Option.some.inj h] at hr25
    exact ⟨_, rfl, hr25, rfl, hO26, e26⟩
  intro gg25 w25 hI25
  clear h hr25
  obtain ⟨h, hsc2_1, hO25, e25⟩ := hI25
  replace h := hG_ hG25 h; clear hG25
  obtain ⟨qq25, rfl⟩ := fr1 hsc2_1
  clear hsc2_1
  refine c_seq ?_
  refine c_reg ?_
  refine sv (r_fieldAddr Try.underlying27 rfl I24 (by decide) rfl) ?_
  refine s_load1 (v := .slice _ _ _) Try.underlying24 rfl rfl (cellB (hO25.get (i := 0) rfl) rfl rfl) ?_
  refine sv (r_fieldAddr Try.underlying27 rfl I3 (by decide) rfl) ?_
  refine s_load1 (v := .int _ _) Try.underlying3 rfl rfl (cellB (hO25.get (i := 0) rfl) rfl rfl) ?_
  obtain ⟨y63, hy63, h⟩ := bindE h
  refine s_call cf40 rfl (c_roster_Find x0.Roster x0.Owner aP0 mP0 cP0 _ hy63 _ _ hm0p hc0p (hR0p.ext e25) hO25) ?_
  rintro er63 w33 ⟨rfl, hO33, e33⟩
  refine ⟨_, rfl, ?_⟩
  refine sv (r_move (v := .tuple _) rfl) ?_
  refine sv (r_extract rfl rfl) ?_
  refine sv (r_extract rfl rfl) ?_
  refine s_alloc I56 hO33 ?_
  intro b4 w34 hz4 hl4 hO34 e34
  have hO35 : Own w34 ((b4, .cells #[(.int .i64 0), (.int .i64 0), (.bool false), (.int .i64 0)] 56 (0, 0)) :: ((b1, .cells #[(.int .i64 x0.Epoch), (.int .i64 x0.Owner), (.int .i64 x0.Next), (.slice aP0 mP0 cP0), (.slice aP1 mP1 cP1)] 27 (0, 0)) :: L)) := hO34
  refine s_storeN (vs := #[(.int .i64 y63.1.Id), (.int .i64 y63.1.Times), (.bool y63.1.Gone), (.int .i64 y63.1.Last)]) I56 rfl rfl rfl hO35 (i := 0) rfl (Nat.le_of_ble_eq_true rfl) (List.all_eq_true.1 rfl) ?_
  intro w37 hO37 e37
  have hO38 : Own w37 ((b4, .cells #[(.int .i64 y63.1.Id), (.int .i64 y63.1.Times), (.bool y63.1.Gone), (.int .i64 y63.1.Last)] 56 (0, 0)) :: ((b1, .cells #[(.int .i64 x0.Epoch), (.int .i64 x0.Owner), (.int .i64 x0.Next), (.slice aP0 mP0 cP0), (.slice aP1 mP1 cP1)] 27 (0, 0)) :: L)) := hO37
  refine sv (r_assign (v := .bool _) rfl) ?_
  refine s_nil ?_
  refine c_next ?_
  refine c_seq ?_
  refine c_reg ?_
  refine sv (r_fieldAddr Try.underlying27 rfl I3 (by decide) rfl) ?_
  refine s_load1 (v := .int _ _) Try.underlying3 rfl rfl (cellB (hO38.get (i := 1) rfl) rfl rfl) ?_
  refine c_eql rfl rfl (fun h68 => ?_) (fun h68 => ?_)
  · replace h := iT h68 h
    refine sv (r_move (v := .bool true) rfl) ?_
    refine g_skip 69 (by rfl) rfl (by rfl) ?_
    refine g_skip 69 (by rfl) rfl (by rfl) ?_
    refine g_skipU 71 (by rfl) rfl ?_
    refine g_skipU 71 (by rfl) rfl ?_
    refine g_skipU 71 (by rfl) rfl ?_
    refine g_skip 69 (by rfl) rfl (by rfl) ?_
    refine sv (r_pickT (v := .bool true) rfl rfl) ?_
    refine sv (r_assign (v := .bool true) rfl) ?_
    refine s_nil ?_
    refine c_next ?_
    refine c_ret ?_
    refine e_1 (v := .bool true) Try.results16 rfl ?_
    obtain ⟨hO40, e40⟩ := hO38.drop1
    obtain ⟨hO41, e41⟩ := hO40.drop1
    rw [← Option.some.inj h]
    exact ⟨rfl, hO41, (e2.trans (e15.trans (e25.trans (e33.trans (e34.trans (e37.trans (e40.trans e41)))))))⟩
  replace h := iF h68 h
  refine sv (r_move (v := .bool false) rfl) ?_
  refine g_do 69 (by rfl) rfl ?_
  refine sv (r_move (v := .bool _) rfl) ?_
  refine g_do 69 (by rfl) rfl ?_
  refine sv (r_move (v := .bool _) rfl) ?_
  rcases Bool.eq_false_or_eq_true (y63.2) with hb42 | hb42
  · replace h := iT hb42 h
    refine g_do 71 (by rfl) (congrArg Value.bool hb42) ?_
    refine sv (r_fieldAddr Try.underlying56 rfl I4 (by decide) rfl) ?_
    refine g_do 71 (by rfl) (congrArg Value.bool hb42) ?_
    refine s_load1 (v := .bool _) Try.underlying4 rfl rfl (cellB (hO38.get (i := 0) rfl) rfl rfl) ?_
    refine g_do 71 (by rfl) (congrArg Value.bool hb42) ?_
    refine sv (r_not (b := y63.1.Gone) rfl) ?_
    refine g_do 69 (by rfl) rfl ?_
    refine sv (r_pickT (v := .bool _) (by exact (congrArg Value.bool hb42)) rfl) ?_
    refine sv (r_pickF (v := .bool _) rfl rfl) ?_
    refine sv (r_assign (v := .bool _) rfl) ?_
    refine s_nil ?_
    refine c_next ?_
    refine c_ret ?_
    refine e_1 (v := .bool _) Try.results16 rfl ?_
    obtain ⟨hO43, e43⟩ := hO38.drop1
    obtain ⟨hO44, e44⟩ := hO43.drop1
    rw [← Option.some.inj h]
    exact ⟨rfl, hO44, (e2.trans (e15.trans (e25.trans (e33.trans (e34.trans (e37.trans (e43.trans e44)))))))⟩
  replace h := iF (nt hb42) h
  refine g_skip 71 (by rfl) (congrArg Value.bool hb42) (by rfl) ?_
  refine g_skip 71 (by rfl) (congrArg Value.bool hb42) (by rfl) ?_
  refine g_skip 71 (by rfl) (congrArg Value.bool hb42) (by rfl) ?_
  refine g_do 69 (by rfl) rfl ?_
  refine sv (r_pickF (v := .bool false) (by exact (congrArg Value.bool hb42)) rfl) ?_
  refine sv (r_pickF (v := .bool false) rfl rfl) ?_
  refine sv (r_assign (v := .bool false) rfl) ?_
  refine s_nil ?_
  refine c_next ?_
  refine c_ret ?_
  refine e_1 (v := .bool false) Try.results16 rfl ?_
  obtain ⟨hO45, e45⟩ := hO38.drop1
  obtain ⟨hO46, e46⟩ := hO45.drop1
  rw [← Option.some.inj h]
  exact ⟨rfl, hO46, (e2.trans (e15.trans (e25.trans (e33.trans (e34.trans (e37.trans (e45.trans e46)))))))⟩
end Go.Proofs.Ytbigpfenlmfhgaa

