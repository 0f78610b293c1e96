/- A part of the proof that the row of the law holds of the program as translated: lemmas and contracts of its functions. -/
import Derived.Test.YtbigpfenlmfhgaaX27s1
import Derived.Test.YtbigpfenlmfhgaaProg
import Derived.Test.YtbigpfenlmfhgaaAvI
import Derived.Test.YtbigpfenlmfhgaaX27p
set_option linter.unusedVariables false
set_option linter.unusedSimpArgs false
set_option maxRecDepth 10000
namespace Go.Proofs.Ytbigpfenlmfhgaa
open Go.GV Go.AV Go.RowKit
attribute [local irreducible] wpList
theorem c_slices_Equal_ticket_Ticket (x0 : (List T_ticket_Ticket)) (x1 : (List T_ticket_Ticket)) (aP0 : Option Addr) (mP0 cP0 : Nat) (aP1 : Option Addr) (mP1 cP1 : Nat)  (r : Bool) (h : F_slices_Equal_ticket_Ticket x0 x1 = some r) (w : World) (L : Hp) (hm0p : x0.length = mP0) (hc0p : mP0 ≤ cP0) (hR0p : Rd w L aP0 (fl e_ticket_Ticket x0)) (hm1p : x1.length = mP1) (hc1p : mP1 ≤ cP1) (hR1p : Rd w L aP1 (fl e_ticket_Ticket x1)) (hO : Own w L) :
    Calls Try.prog 37 #[(.slice aP0 mP0 cP0), (.slice aP1 mP1 cP1)] w fun en w' => en = .returned (.bool r) ∧ Own w' L ∧ Ext w L w' L := by
  unfold F_slices_Equal_ticket_Ticket at h
  refine enter (n := 26) [(.slice aP0 mP0 cP0), (.slice aP1 mP1 cP1)] Try.func37 rfl rfl (Nat.le_of_ble_eq_true rfl) ?_
  refine c_seq ?_
  refine c_reg ?_
  refine sv (r_assign (v := .bool false) rfl) ?_
  refine s_nil ?_
  refine c_next ?_
  refine c_seq ?_
  obtain ⟨oc1, G1, hG1, h, hr1⟩ := bindG h
  refine c_cutL hO (fun Lc f0 g w' => ∃ (xc1_t10 : Bool), (G1 xc1_t10 = some r) ∧ g 0 = (.slice aP0 mP0 cP0) ∧ g 1 = (.slice aP1 mP1 cP1) ∧ g 10 = (.bool xc1_t10) ∧ Own w' L ∧ Ext w Lc w' L) ?_ ?_
  · skip
    refine c_reg ?_
    refine sv (r_move (v := .slice _ _ _) rfl) ?_
    refine sv (r_lenL (xs := x0) Try.underlying25 rfl hm0p) ?_
    refine sv (r_move (v := .slice _ _ _) rfl) ?_
    refine sv (r_lenL (xs := x1) Try.underlying25 rfl hm1p) ?_
    refine c_neq rfl rfl (fun h10 => ?_) (fun h10 => ?_)
    · replace h := iT h10 h
      refine s_nil ?_
      refine c_next ?_
      rw [← Option.some.inj h] at hr1
      exact ⟨_, rfl, true, hr1, rfl, rfl, rfl, hO, (Ext.refl _ _)⟩
    replace h := iF (Classical.not_not.2 h10) h
    refine s_nil ?_
    refine c_next ?_
    rw [← Option.some.inj h] at hr1
    exact ⟨_, rfl, false, hr1, rfl, rfl, rfl, hO, (Ext.refl _ _)⟩
  intro gg1 w1 hI1
  clear h hr1
  obtain ⟨xc1_t10, h, hsc1_0, hsc1_1, hsc1_10, hO1, e1⟩ := hI1
  replace h := hG_ hG1 h; clear hG1
  obtain ⟨qq1, rfl⟩ := fr3 hsc1_0 hsc1_1 hsc1_10
  clear hsc1_0 hsc1_1 hsc1_10
  rcases Bool.eq_false_or_eq_true (xc1_t10) with hb2 | hb2
  · replace h := iT hb2 h
    refine c_condT (congrArg Value.bool hb2) ?_
    refine c_seq ?_
    refine c_reg ?_
    refine sv (r_assign (v := .bool false) rfl) ?_
    refine s_nil ?_
    refine c_next ?_
    refine c_ret ?_
    refine r_then ?_
    refine e_1 (v := .bool false) Try.results37 rfl ?_
    rw [← Option.some.inj h]
    exact ⟨rfl, hO1, e1⟩
  replace h := iF (nt hb2) h
  refine c_condF (congrArg Value.bool hb2) ?_
  refine c_skip ?_
  refine c_next ?_
  refine c_seq ?_
  refine c_seq ?_
  refine c_reg ?_
  refine sv (r_move (v := .slice _ _ _) rfl) ?_
  refine sv (r_lenL (xs := x0) Try.underlying25 rfl hm0p) ?_
  refine sv (r_move (v := .int _ _) rfl) ?_
  refine s_nil ?_
  refine c_next ?_
  refine c_block ?_
  have hR0p := (hR0p.ext e1)
  have hR1p := (hR1p.ext e1)
  obtain ⟨kl9, hkl9⟩ := loop_iff.1 h
  clear h
  refine c_loopL hO1 (fun Lc f0 m g wl => ∃ (xl2_t13 : Int), (iterK (slices_Equal_ticket_Ticket_l2 x0 x1) m xl2_t13 = some r) ∧ g 0 = (.slice aP0 mP0 cP0) ∧ g 1 = (.slice aP1 mP1 cP1) ∧ g 12 = (.int .i64 ((x0.length : Int))) ∧ g 13 = (.int .i64 xl2_t13) ∧ Own wl L ∧ Ext w1 Lc wl L) kl9 ?_ ?_
  · skip
    exact ⟨0, hkl9, rfl, rfl, rfl, rfl, hO1, (Ext.refl _ _)⟩
  clear hkl9
  intro mm9 gg9 w9 hI9
  obtain ⟨xl2_t13, hkl9, hsl2_0, hsl2_1, hsl2_12, hsl2_13, hO9, e9⟩ := hI9
  obtain ⟨kl9, yl9, rfl, h, hyl9⟩ := iterE hkl9
  clear hkl9
  obtain ⟨qq9, rfl⟩ := fr4 hsl2_0 hsl2_1 hsl2_12 hsl2_13
  clear hsl2_0 hsl2_1 hsl2_12 hsl2_13
  refine c_seq ?_
  refine c_reg ?_
  refine c_lss rfl rfl (fun h14 => ?_) (fun h14 => ?_)
  · replace h := iT h14 h
    refine s_nil ?_
    refine c_next ?_
    refine c_seq ?_
    refine c_condT rfl ?_
    refine c_skip ?_
    refine c_next ?_
    refine c_seq ?_
    refine c_block ?_
    refine c_seq ?_
    refine c_reg ?_
    refine sv (r_move (v := .int _ _) rfl) ?_
    refine sv (r_assign (v := .int _ _) rfl) ?_
    refine s_nil ?_
    refine c_next ?_
    refine c_seq ?_
    have hR0p := (hR0p.ext e9)
    have hR1p := (hR1p.ext e9)
    refine d_startL hO9 hO9 9 (by kernel_rfl) (pk_then (pk_block (pk_then (pk_then (pk_block (pk_then pk_body)))))) ?_
    intro hP11 wd11 hK11 hO10 e10
    refine dT (i := 0) (listed' := #[I_,O_,O_,O_,O_,O_,O_,O_,O_]) rfl hP11 hK11 (fun wS hS => (r_move (v := .slice _ _ _) rfl)) ?_
    refine dT (i := 1) (listed' := #[I_,I_,O_,O_,O_,O_,O_,O_,O_]) rfl hP11 hK11 (fun wS hS => (r_move (v := .int _ _) rfl)) ?_
    obtain ⟨y18, hy18, h⟩ := bindE h
    obtain ⟨ad18, had18, hk18⟩ := ix_known (e := e_ticket_Ticket) (Rd.cs hR0p) e_ticket_Ticket_len (by decide) hy18
    have hx18 : Value.slice aP0 mP0 cP0 = .slice (some ad18) mP0 cP0 := by rw [had18]
    refine dT (i := 2) (listed' := #[I_,I_,I_,O_,O_,O_,O_,O_,O_]) rfl hP11 hK11 (fun wS hS => (ra_idx (xs := x0) (i := xl2_t13) Try.underlying25 I59 (by exact hx18) (by rfl) hm0p hy18)) ?_
    refine dT (i := 3) (listed' := #[I_,I_,I_,I_,O_,O_,O_,O_,O_]) rfl hP11 hK11 (fun wS hS => (r_loadN (cs := [(.int .i64 y18.No), (.int .i64 y18.For), (.int .i64 y18.Until)]) Try.underlying59 rfl I59 rfl rfl (hk18 _ (hR0p.kept hS)))) ?_
    refine dT (i := 4) (listed' := #[I_,I_,I_,I_,I_,O_,O_,O_,O_]) rfl hP11 hK11 (fun wS hS => (r_move (v := .slice _ _ _) rfl)) ?_
    refine dT (i := 5) (listed' := #[I_,I_,I_,I_,I_,I_,O_,O_,O_]) rfl hP11 hK11 (fun wS hS => (r_move (v := .int _ _) rfl)) ?_
    obtain ⟨y22, hy22, h⟩ := bindE h
    obtain ⟨ad22, had22, hk22⟩ := ix_known (e := e_ticket_Ticket) (Rd.cs hR1p) e_ticket_Ticket_len (by decide) hy22
    have hx22 : Value.slice aP1 mP1 cP1 = .slice (some ad22) mP1 cP1 := by rw [had22]
    refine dT (i := 6) (listed' := #[I_,I_,I_,I_,I_,I_,I_,O_,O_]) rfl hP11 hK11 (fun wS hS => (ra_idx (xs := x1) (i := xl2_t13) Try.underlying25 I59 (by exact hx22) (by rfl) hm1p hy22)) ?_
    refine dT (i := 7) (listed' := #[I_,I_,I_,I_,I_,I_,I_,I_,O_]) rfl hP11 hK11 (fun wS hS => (r_loadN (cs := [(.int .i64 y22.No), (.int .i64 y22.For), (.int .i64 y22.Until)]) Try.underlying59 rfl I59 rfl rfl (hk22 _ (hR1p.kept hS)))) ?_
    refine dT (i := 8) (listed' := #[I_,I_,I_,I_,I_,I_,I_,I_,I_]) rfl hP11 hK11 (fun wS hS => (r_stNe (u := y18) (v := y22) (by kernel_rfl) (fun D => eq_59 D _ _ _) rfl rfl)) ?_
    refine d_done (by kernel_rfl) ?_
    refine c_next ?_
    rcases Bool.eq_false_or_eq_true ((decide (y18 = y22))) with hb12 | hb12
    · replace h := iT hb12 h
      refine c_condF (congrArg Value.bool (nnt hb12)) ?_
      refine c_skip ?_
      refine x_norm ?_
      refine c_next ?_
      refine c_reg ?_
      refine sv (r_addI (a := xl2_t13) (b := 1) rfl rfl) ?_
      refine sv (r_move (v := .int _ _) rfl) ?_
      refine s_nil ?_
      refine l_end (m' := kl9) (Nat.lt_succ_self _) ?_
      rw [← Option.some.inj h] at hyl9
      exact ⟨(w64 (xl2_t13 + 1)), hyl9, rfl, rfl, rfl, rfl, hO10, (e9.trans e10)⟩
    replace h := iF (nt hb12) h
    refine c_condT (congrArg Value.bool (nnf hb12)) ?_
    refine c_seq ?_
    refine c_reg ?_
    refine sv (r_assign (v := .bool false) rfl) ?_
    refine s_nil ?_
    refine c_next ?_
    refine c_ret ?_
    refine r_block ?_
    refine r_then ?_
    refine r_then ?_
    refine r_block ?_
    refine r_then ?_
    replace h := crossE h hyl9
    refine e_1 (v := .bool false) Try.results37 rfl ?_
    rw [← Option.some.inj h]
    exact ⟨rfl, hO10, (e1.trans (e9.trans e10))⟩
  replace h := iF (Int.not_lt.2 h14) h
  refine s_nil ?_
  refine c_next ?_
  refine c_seq ?_
  refine c_condF rfl ?_
  refine c_exit ?_
  refine x_then ?_
  refine x_then ?_
  refine x_same ?_
  replace h := crossE h hyl9
  refine c_next ?_
  refine c_seq ?_
  refine c_reg ?_
  refine sv (r_assign (v := .bool true) rfl) ?_
  refine s_nil ?_
  refine c_next ?_
  refine c_ret ?_
  refine e_1 (v := .bool true) Try.results37 rfl ?_
  rw [← Option.some.inj h]
  exact ⟨rfl, hO9, (e1.trans e9)⟩
theorem c_claim_Same (x0 : T_claim_State) (x1 : T_claim_State) (aP0 : Option Addr) (mP0 cP0 : Nat) (aP1 : Option Addr) (mP1 cP1 : Nat) (aP2 : Option Addr) (mP2 cP2 : Nat) (aP3 : Option Addr) (mP3 cP3 : Nat)  (r : Bool) (h : F_claim_Same x0 x1 = some r) (w : World) (L : Hp) (hm0p : x0.Roster.length = mP0) (hc0p : mP0 ≤ cP0) (hR0p : Rd w L aP0 (fl e_roster_Device x0.Roster)) (hm1p : x0.Tickets.length = mP1) (hc1p : mP1 ≤ cP1) (hR1p : Rd w L aP1 (fl e_ticket_Ticket x0.Tickets)) (hm2p : x1.Roster.length = mP2) (hc2p : mP2 ≤ cP2) (hR2p : Rd w L aP2 (fl e_roster_Device x1.Roster)) (hm3p : x1.Tickets.length = mP3) (hc3p : mP3 ≤ cP3) (hR3p : Rd w L aP3 (fl e_ticket_Ticket x1.Tickets)) (hO : Own w L) :
    Calls Try.prog 14 #[(.agg #[(.int .i64 x0.Epoch), (.int .i64 x0.Owner), (.int .i64 x0.Next), (.slice aP0 mP0 cP0), (.slice aP1 mP1 cP1)]), (.agg #[(.int .i64 x1.Epoch), (.int .i64 x1.Owner), (.int .i64 x1.Next), (.slice aP2 mP2 cP2), (.slice aP3 mP3 cP3)])] w fun en w' => en = .returned (.bool r) ∧ Own w' L ∧ Ext w L w' L := by
  unfold F_claim_Same at h
  refine enter (n := 38) [(.agg #[(.int .i64 x0.Epoch), (.int .i64 x0.Owner), (.int .i64 x0.Next), (.slice aP0 mP0 cP0), (.slice aP1 mP1 cP1)]), (.agg #[(.int .i64 x1.Epoch), (.int .i64 x1.Owner), (.int .i64 x1.Next), (.slice aP2 mP2 cP2), (.slice aP3 mP3 cP3)])] Try.func14 rfl rfl (Nat.le_of_ble_eq_true rfl) ?_
  refine c_seq ?_
  refine c_reg ?_
  refine s_box (v := (.agg #[(.int .i64 x0.Epoch), (.int .i64 x0.Owner), (.int .i64 x0.Next), (.slice aP0 mP0 cP0), (.slice aP1 mP1 cP1)])) rfl hO ?_
  intro b2 w3 hz2 hl2 hO3 e3
  have hO4 : Own w3 ((b2, .cells #[(.int .i64 x0.Epoch), (.int .i64 x0.Owner), (.int .i64 x0.Next), (.slice aP0 mP0 cP0), (.slice aP1 mP1 cP1)] 27 (0, 0)) :: L) := hO3
  refine s_box (v := (.agg #[(.int .i64 x1.Epoch), (.int .i64 x1.Owner), (.int .i64 x1.Next), (.slice aP2 mP2 cP2), (.slice aP3 mP3 cP3)])) rfl hO4 ?_
  intro b3 w6 hz3 hl3 hO6 e6
  have hO7 : Own w6 ((b3, .cells #[(.int .i64 x1.Epoch), (.int .i64 x1.Owner), (.int .i64 x1.Next), (.slice aP2 mP2 cP2), (.slice aP3 mP3 cP3)] 27 (0, 0)) :: ((b2, .cells #[(.int .i64 x0.Epoch), (.int .i64 x0.Owner), (.int .i64 x0.Next), (.slice aP0 mP0 cP0), (.slice aP1 mP1 cP1)] 27 (0, 0)) :: L)) := hO6
  refine sv (r_assign (v := .bool false) rfl) ?_
  refine s_nil ?_
  refine c_next ?_
  refine c_seq ?_
  refine c_reg ?_
  refine sv (r_fieldAddr Try.underlying27 rfl I3 (by decide) rfl) ?_
  refine s_load1 (v := .int _ _) Try.underlying3 rfl rfl (cellB (hO7.get (i := 1) rfl) rfl rfl) ?_
  refine sv (r_fieldAddr Try.underlying27 rfl I3 (by decide) rfl) ?_
  refine s_load1 (v := .int _ _) Try.underlying3 rfl rfl (cellB (hO7.get (i := 0) rfl) rfl rfl) ?_
  refine c_eql rfl rfl (fun h9 => ?_) (fun h9 => ?_)
  · replace h := iT h9 h
    refine sv (r_move (v := .bool true) rfl) ?_
    refine g_do 10 (by rfl) rfl ?_
    refine sv (r_fieldAddr Try.underlying27 rfl I3 (by decide) rfl) ?_
    refine g_do 10 (by rfl) rfl ?_
    refine s_load1 (v := .int _ _) Try.underlying3 rfl rfl (cellB (hO7.get (i := 1) rfl) rfl rfl) ?_
    refine g_do 10 (by rfl) rfl ?_
    refine sv (r_fieldAddr Try.underlying27 rfl I3 (by decide) rfl) ?_
    refine g_do 10 (by rfl) rfl ?_
    refine s_load1 (v := .int _ _) Try.underlying3 rfl rfl (cellB (hO7.get (i := 0) rfl) rfl rfl) ?_
    refine g_do 10 (by rfl) rfl ?_
    refine c_eql rfl rfl (fun h15 => ?_) (fun h15 => ?_)
    · replace h := iT h15 h
      refine sv (r_pickT (v := .bool true) rfl rfl) ?_
      refine sv (r_move (v := .bool true) rfl) ?_
      refine g_do 17 (by rfl) rfl ?_
      refine sv (r_fieldAddr Try.underlying27 rfl I3 (by decide) rfl) ?_
      refine g_do 17 (by rfl) rfl ?_
      refine s_load1 (v := .int _ _) Try.underlying3 rfl rfl (cellB (hO7.get (i := 1) rfl) rfl rfl) ?_
      refine g_do 17 (by rfl) rfl ?_
      refine sv (r_fieldAddr Try.underlying27 rfl I3 (by decide) rfl) ?_
      refine g_do 17 (by rfl) rfl ?_
      refine s_load1 (v := .int _ _) Try.underlying3 rfl rfl (cellB (hO7.get (i := 0) rfl) rfl rfl) ?_
      refine g_do 17 (by rfl) rfl ?_
      refine c_eql rfl rfl (fun h22 => ?_) (fun h22 => ?_)
      · replace h := iT h22 h
        refine sv (r_pickT (v := .bool true) rfl rfl) ?_
        refine sv (r_move (v := .bool true) rfl) ?_
        refine g_do 24 (by rfl) rfl ?_
        refine sv (r_fieldAddr Try.underlying27 rfl I24 (by decide) rfl) ?_
        refine g_do 24 (by rfl) rfl ?_
        refine s_load1 (v := .slice _ _ _) Try.underlying24 rfl rfl (cellB (hO7.get (i := 1) rfl) rfl rfl) ?_
        refine g_do 24 (by rfl) rfl ?_
        refine sv (r_fieldAddr Try.underlying27 rfl I24 (by decide) rfl) ?_
        refine g_do 24 (by rfl) rfl ?_
        refine s_load1 (v := .slice _ _ _) Try.underlying24 rfl rfl (cellB (hO7.get (i := 0) rfl) rfl rfl) ?_
        refine g_do 24 (by rfl) rfl ?_
        obtain ⟨y29, hy29, h⟩ := bindE h
        refine s_call cf36 rfl (c_slices_Equal_roster_Device x0.Roster x1.Roster aP0 mP0 cP0 aP2 mP2 cP2 _ hy29 _ _ hm0p hc0p (hR0p.ext (e3.trans e6)) hm2p hc2p (hR2p.ext (e3.trans e6)) hO7) ?_
        rintro er29 w9 ⟨rfl, hO9, e9⟩
        refine ⟨_, rfl, ?_⟩
        refine sv (r_pickT (v := .bool _) rfl rfl) ?_
        refine sv (r_move (v := .bool _) rfl) ?_
        rcases Bool.eq_false_or_eq_true (y29) with hb10 | hb10
        · replace h := iT hb10 h
          refine g_do 31 (by rfl) (congrArg Value.bool hb10) ?_
          refine sv (r_fieldAddr Try.underlying27 rfl I25 (by decide) rfl) ?_
          refine g_do 31 (by rfl) (congrArg Value.bool hb10) ?_
          refine s_load1 (v := .slice _ _ _) Try.underlying25 rfl rfl (cellB (hO9.get (i := 1) rfl) rfl rfl) ?_
          refine g_do 31 (by rfl) (congrArg Value.bool hb10) ?_
          refine sv (r_fieldAddr Try.underlying27 rfl I25 (by decide) rfl) ?_
          refine g_do 31 (by rfl) (congrArg Value.bool hb10) ?_
          refine s_load1 (v := .slice _ _ _) Try.underlying25 rfl rfl (cellB (hO9.get (i := 0) rfl) rfl rfl) ?_
          refine g_do 31 (by rfl) (congrArg Value.bool hb10) ?_
          obtain ⟨y36, hy36, h⟩ := bindE h
          refine s_call cf37 rfl (c_slices_Equal_ticket_Ticket x0.Tickets x1.Tickets aP1 mP1 cP1 aP3 mP3 cP3 _ hy36 _ _ hm1p hc1p (hR1p.ext (e3.trans (e6.trans e9))) hm3p hc3p (hR3p.ext (e3.trans (e6.trans e9))) hO9) ?_
          rintro er36 w11 ⟨rfl, hO11, e11⟩
          refine ⟨_, rfl, ?_⟩
          refine sv (r_pickT (v := .bool _) (by exact (congrArg Value.bool hb10)) rfl) ?_
          refine sv (r_assign (v := .bool _) rfl) ?_
          refine s_nil ?_
          refine c_next ?_
          refine c_ret ?_
          refine e_1 (v := .bool _) Try.results14 rfl ?_
          obtain ⟨hO12, e12⟩ := hO11.drop1
          obtain ⟨hO13, e13⟩ := hO12.drop1
          rw [← Option.some.inj h]
          exact ⟨rfl, hO13, (e3.trans (e6.trans (e9.trans (e11.trans (e12.trans e13)))))⟩
        replace h := iF (nt hb10) h
        refine g_skip 31 (by rfl) (congrArg Value.bool hb10) (by rfl) ?_
        refine g_skip 31 (by rfl) (congrArg Value.bool hb10) (by rfl) ?_
        refine g_skip 31 (by rfl) (congrArg Value.bool hb10) (by rfl) ?_
        refine g_skip 31 (by rfl) (congrArg Value.bool hb10) (by rfl) ?_
        refine g_skip 31 (by rfl) (congrArg Value.bool hb10) (by rfl) ?_
        refine sv (r_pickF (v := .bool false) (by exact (congrArg Value.bool hb10)) rfl) ?_
        refine sv (r_assign (v := .bool false) rfl) ?_
        refine s_nil ?_
        refine c_next ?_
        refine c_ret ?_
        refine e_1 (v := .bool false) Try.results14 rfl ?_
        obtain ⟨hO14, e14⟩ := hO9.drop1
        obtain ⟨hO15, e15⟩ := hO14.drop1
        rw [← Option.some.inj h]
        exact ⟨rfl, hO15, (e3.trans (e6.trans (e9.trans (e14.trans e15))))⟩
      replace h := iF h22 h
      refine sv (r_pickT (v := .bool false) rfl rfl) ?_
      refine sv (r_move (v := .bool false) rfl) ?_
      refine g_skip 24 (by rfl) rfl (by rfl) ?_
      refine g_skip 24 (by rfl) rfl (by rfl) ?_
      refine g_skip 24 (by rfl) rfl (by rfl) ?_
      refine g_skip 24 (by rfl) rfl (by rfl) ?_
      refine g_skip 24 (by rfl) rfl (by rfl) ?_
      refine sv (r_pickF (v := .bool false) rfl rfl) ?_
      refine sv (r_move (v := .bool false) rfl) ?_
      refine g_skip 31 (by rfl) rfl (by rfl) ?_
      refine g_skip 31 (by rfl) rfl (by rfl) ?_
      refine g_skip 31 (by rfl) rfl (by rfl) ?_
      refine g_skip 31 (by rfl) rfl (by rfl) ?_
      refine g_skip 31 (by rfl) rfl (by rfl) ?_
      refine sv (r_pickF (v := .bool false) rfl rfl) ?_
      refine sv (r_assign (v := .bool false) rfl) ?_
      refine s_nil ?_
      refine c_next ?_
      refine c_ret ?_
      refine e_1 (v := .bool false) Try.results14 rfl ?_
      obtain ⟨hO16, e16⟩ := hO7.drop1
      obtain ⟨hO17, e17⟩ := hO16.drop1
      rw [← Option.some.inj h]
      exact ⟨rfl, hO17, (e3.trans (e6.trans (e16.trans e17)))⟩
    replace h := iF h15 h
    refine sv (r_pickT (v := .bool false) rfl rfl) ?_
    refine sv (r_move (v := .bool false) rfl) ?_
    refine g_skip 17 (by rfl) rfl (by rfl) ?_
    refine g_skip 17 (by rfl) rfl (by rfl) ?_
    refine g_skip 17 (by rfl) rfl (by rfl) ?_
    refine g_skip 17 (by rfl) rfl (by rfl) ?_
    refine g_skip 17 (by rfl) rfl (by rfl) ?_
    refine sv (r_pickF (v := .bool false) rfl rfl) ?_
    refine sv (r_move (v := .bool false) rfl) ?_
    refine g_skip 24 (by rfl) rfl (by rfl) ?_
    refine g_skip 24 (by rfl) rfl (by rfl) ?_
    refine g_skip 24 (by rfl) rfl (by rfl) ?_
    refine g_skip 24 (by rfl) rfl (by rfl) ?_
    refine g_skip 24 (by rfl) rfl (by rfl) ?_
    refine sv (r_pickF (v := .bool false) rfl rfl) ?_
    refine sv (r_move (v := .bool false) rfl) ?_
    refine g_skip 31 (by rfl) rfl (by rfl) ?_
    refine g_skip 31 (by rfl) rfl (by rfl) ?_
    refine g_skip 31 (by rfl) rfl (by rfl) ?_
    refine g_skip 31 (by rfl) rfl (by rfl) ?_
    refine g_skip 31 (by rfl) rfl (by rfl) ?_
    refine sv (r_pickF (v := .bool false) rfl rfl) ?_
    refine sv (r_assign (v := .bool false) rfl) ?_
    refine s_nil ?_
    refine c_next ?_
    refine c_ret ?_
    refine e_1 (v := .bool false) Try.results14 rfl ?_
    obtain ⟨hO18, e18⟩ := hO7.drop1
    obtain ⟨hO19, e19⟩ := hO18.drop1
    rw [← Option.some.inj h]
    exact ⟨rfl, hO19, (e3.trans (e6.trans (e18.trans e19)))⟩
  replace h := iF h9 h
  refine sv (r_move (v := .bool false) rfl) ?_
  refine g_skip 10 (by rfl) rfl (by rfl) ?_
  refine g_skip 10 (by rfl) rfl (by rfl) ?_
  refine g_skip 10 (by rfl) rfl (by rfl) ?_
  refine g_skip 10 (by rfl) rfl (by rfl) ?_
  refine g_skip 10 (by rfl) rfl (by rfl) ?_
  refine sv (r_pickF (v := .bool false) rfl rfl) ?_
  refine sv (r_move (v := .bool false) rfl) ?_
  refine g_skip 17 (by rfl) rfl (by rfl) ?_
  refine g_skip 17 (by rfl) rfl (by rfl) ?_
  refine g_skip 17 (by rfl) rfl (by rfl) ?_
  refine g_skip 17 (by rfl) rfl (by rfl) ?_
  refine g_skip 17 (by rfl) rfl (by rfl) ?_
  refine sv (r_pickF (v := .bool false) rfl rfl) ?_
  refine sv (r_move (v := .bool false) rfl) ?_
  refine g_skip 24 (by rfl) rfl (by rfl) ?_
  refine g_skip 24 (by rfl) rfl (by rfl) ?_
  refine g_skip 24 (by rfl) rfl (by rfl) ?_
  refine g_skip 24 (by rfl) rfl (by rfl) ?_
  refine g_skip 24 (by rfl) rfl (by rfl) ?_
  refine sv (r_pickF (v := .bool false) rfl rfl) ?_
  refine sv (r_move (v := .bool false) rfl) ?_
  refine g_skip 31 (by rfl) rfl (by rfl) ?_
  refine g_skip 31 (by rfl) rfl (by rfl) ?_
  refine g_skip 31 (by rfl) rfl (by rfl) ?_
  refine g_skip 31 (by rfl) rfl (by rfl) ?_
  refine g_skip 31 (by rfl) rfl (by rfl) ?_
  refine sv (r_pickF (v := .bool false) rfl rfl) ?_
  refine sv (r_assign (v := .bool false) rfl) ?_
  refine s_nil ?_
  refine c_next ?_
  refine c_ret ?_
  refine e_1 (v := .bool false) Try.results14 rfl ?_
  obtain ⟨hO20, e20⟩ := hO7.drop1
  obtain ⟨hO21, e21⟩ := hO20.drop1
  rw [← Option.some.inj h]
  exact ⟨rfl, hO21, (e3.trans (e6.trans (e20.trans e21)))⟩
theorem c_batonlaw27_ClaimRuns (x0 : (List T_claim_Op)) (aP0 : Option Addr) (mP0 cP0 : Nat)  (r : Bool) (h : F_batonlaw27_ClaimRuns x0 = some r) (w : World) (L : Hp) (hm0p : x0.length = mP0) (hc0p : mP0 ≤ cP0) (hR0p : Rd w L aP0 (fl e_claim_Op x0)) (hO : Own w L) :
    Calls Try.prog 3 #[(.slice aP0 mP0 cP0)] w fun en w' => en = .returned (.bool r) ∧ Own w' L ∧ Ext w L w' L := by
  unfold F_batonlaw27_ClaimRuns at h
  refine enter (n := 64) [(.slice aP0 mP0 cP0)] Try.func3 rfl rfl (Nat.le_of_ble_eq_true rfl) ?_
  refine c_seq ?_
  refine c_reg ?_
  refine sv (r_assign (v := .bool false) rfl) ?_
  refine s_nil ?_
  refine c_next ?_
  refine c_seq ?_
  refine c_seq ?_
  refine c_reg ?_
  obtain ⟨y10, hy10, h⟩ := bindE h
  refine s_call cf7 rfl (c_batonlaw27_awake _ hy10 _ _ hO) ?_
  rintro er10 w4 ⟨rfl, hO4, e4⟩
  refine ⟨_, rfl, ?_⟩
  refine sv (r_not (b := y10) rfl) ?_
  refine s_nil ?_
  refine c_next ?_
  rcases Bool.eq_false_or_eq_true (y10) with hb5 | hb5
  · replace h := iT hb5 h
    refine c_condF (congrArg Value.bool (nnt hb5)) ?_
    refine c_skip ?_
    refine c_next ?_
    refine c_seq ?_
    have hR0p := (hR0p.ext e4)
    obtain ⟨oc6, G6, hG6, h, hr6⟩ := bindG h
    refine c_cutL hO4 (fun Lc f0 g w' => ∃ (xc1_t14 : Bool), (G6 xc1_t14 = some r) ∧ g 0 = (.slice aP0 mP0 cP0) ∧ g 14 = (.bool xc1_t14) ∧ Own w' L ∧ Ext w4 Lc w' L) ?_ ?_
    · skip
      refine c_reg ?_
      refine sv (r_move (v := .slice _ _ _) rfl) ?_
      refine sv (r_lenL (xs := x0) Try.underlying22 rfl hm0p) ?_
      refine c_gtr rfl rfl (fun h14 => ?_) (fun h14 => ?_)
      · replace h := iT h14 h
        refine s_nil ?_
        refine c_next ?_
        rw [← Option.some.inj h] at hr6
        exact ⟨_, rfl, true, hr6, rfl, rfl, hO4, (Ext.refl _ _)⟩
      replace h := iF (Int.not_lt.2 h14) h
      refine s_nil ?_
      refine c_next ?_
      rw [← Option.some.inj h] at hr6
      exact ⟨_, rfl, false, hr6, rfl, rfl, hO4, (Ext.refl _ _)⟩
    intro gg6 w6 hI6
    clear h hr6
    obtain ⟨xc1_t14, h, hsc1_0, hsc1_14, hO6, e6⟩ := hI6
    replace h := hG_ hG6 h; clear hG6
    obtain ⟨qq6, rfl⟩ := fr2 hsc1_0 hsc1_14
    clear hsc1_0 hsc1_14
    rcases Bool.eq_false_or_eq_true (xc1_t14) with hb7 | hb7
    · replace h := iT hb7 h
      refine c_condT (congrArg Value.bool hb7) ?_
      refine c_seq ?_
      refine c_reg ?_
      refine sv (r_assign (v := .bool true) rfl) ?_
      refine s_nil ?_
      refine c_next ?_
      refine c_ret ?_
      refine r_then ?_
      refine e_1 (v := .bool true) Try.results3 rfl ?_
      rw [← Option.some.inj h]
      exact ⟨rfl, hO6, (e4.trans e6)⟩
    replace h := iF (nt hb7) h
    refine c_condF (congrArg Value.bool hb7) ?_
    refine c_skip ?_
    refine c_next ?_
    refine c_seq ?_
    refine c_reg ?_
    obtain ⟨y15, hy15, h⟩ := bindE h
    refine s_call cf8 rfl (c_claim_New _ hy15 _ _ hO6) ?_
    rintro er15 w13 ⟨a15_0, m15_0, c15_0, S15_0, a15_1, m15_1, c15_1, S15_1, rfl, hm15_0, hS15_0, hm15_1, hS15_1, hO13, e13⟩
    refine ⟨_, rfl, ?_⟩
    refine sv (r_build (vs := [(1, (.int .i64 ((-1)))), (2, (.int .i64 1))]) (cells := #[(.int .i64 0), (.int .i64 ((-1))), (.int .i64 1), (.slice none 0 0), (.slice none 0 0)]) I32 pl32 rfl (by kernel_rfl)) ?_
    refine s_alloc I27 hO13 ?_
    intro b3 w14 hz3 hl3 hO14 e14
    have hO15 : Own w14 ((b3, .cells #[(.int .i64 0), (.int .i64 0), (.int .i64 0), (.slice none 0 0), (.slice none 0 0)] 27 (0, 0)) :: (S15_0 ++ (S15_1 ++ L))) := hO14
    refine s_alloc I32 hO15 ?_
    intro b4 w17 hz4 hl4 hO17 e17
    have hO18 : Own w17 ((b4, .cells #[(.int .i64 0), (.int .i64 0), (.int .i64 0), (.slice none 0 0), (.slice none 0 0)] 32 (0, 0)) :: ((b3, .cells #[(.int .i64 0), (.int .i64 0), (.int .i64 0), (.slice none 0 0), (.slice none 0 0)] 27 (0, 0)) :: (S15_0 ++ (S15_1 ++ L)))) := hO17
    refine s_storeN (vs := #[(.int .i64 y15.Epoch), (.int .i64 y15.Owner), (.int .i64 y15.Next), (.slice a15_0 m15_0 c15_0), (.slice a15_1 m15_1 c15_1)]) I27 rfl rfl rfl hO18 (i := 1) rfl (Nat.le_of_ble_eq_true rfl) (List.all_eq_true.1 rfl) ?_
    intro w20 hO20 e20
    have hO21 : Own w20 ((b4, .cells #[(.int .i64 0), (.int .i64 0), (.int .i64 0), (.slice none 0 0), (.slice none 0 0)] 32 (0, 0)) :: ((b3, .cells #[(.int .i64 y15.Epoch), (.int .i64 y15.Owner), (.int .i64 y15.Next), (.slice a15_0 m15_0 c15_0), (.slice a15_1 m15_1 c15_1)] 27 (0, 0)) :: (S15_0 ++ (S15_1 ++ L)))) := hO20
    refine s_storeN (vs := #[(.int .i64 0), (.int .i64 ((-1))), (.int .i64 1), (.slice none 0 0), (.slice none 0 0)]) I32 rfl rfl rfl hO21 (i := 0) rfl (Nat.le_of_ble_eq_true rfl) (List.all_eq_true.1 rfl) ?_
    intro w23 hO23 e23
    have hO24 : Own w23 ((b4, .cells #[(.int .i64 0), (.int .i64 ((-1))), (.int .i64 1), (.slice none 0 0), (.slice none 0 0)] 32 (0, 0)) :: ((b3, .cells #[(.int .i64 y15.Epoch), (.int .i64 y15.Owner), (.int .i64 y15.Next), (.slice a15_0 m15_0 c15_0), (.slice a15_1 m15_1 c15_1)] 27 (0, 0)) :: (S15_0 ++ (S15_1 ++ L)))) := hO23
    refine s_nil ?_
    refine c_next ?_
    refine c_seq ?_
    refine c_seq ?_
    refine c_reg ?_
    refine sv (r_assign (v := .int _ _) rfl) ?_
    refine s_nil ?_
    refine c_next ?_
    refine c_block ?_
    have hR0p := (hR0p.ext (e6.trans (e13.trans (e14.trans (e17.trans (e20.trans e23))))))
    obtain ⟨kl454, hkl454⟩ := loop_iff.1 h
    clear h
    refine c_loopL hO24 (fun Lc f0 m g wl => ∃ (xl2_t5 : Int) (xl2_b3 : T_claim_State) (xl2_b4 : T_batonref27_State) (al2_0 : Option Addr) (ml2_0 cl2_0 : Nat) (al2_1 : Option Addr) (ml2_1 cl2_1 : Nat) (al2_2 : Option Addr) (ml2_2 cl2_2 : Nat) (al2_3 : Option Addr) (ml2_3 cl2_3 : Nat), (iterK (batonlaw27_ClaimRuns_l2 x0) m (xl2_t5, xl2_b3, xl2_b4) = some r) ∧ g 0 = (.slice aP0 mP0 cP0) ∧ g 3 = (.pointer (some ⟨b3, 0, none⟩)) ∧ g 4 = (.pointer (some ⟨b4, 0, none⟩)) ∧ g 5 = (.int .i64 xl2_t5) ∧ xl2_b3.Roster.length = ml2_0 ∧ ml2_0 ≤ cl2_0 ∧ Rd wl ((b3, .cells #[(.int .i64 xl2_b3.Epoch), (.int .i64 xl2_b3.Owner), (.int .i64 xl2_b3.Next), (.slice al2_0 ml2_0 cl2_0), (.slice al2_1 ml2_1 cl2_1)] 27 (0, 0)) :: ((b4, .cells #[(.int .i64 xl2_b4.Epoch), (.int .i64 xl2_b4.Owner), (.int .i64 xl2_b4.Next), (.slice al2_2 ml2_2 cl2_2), (.slice al2_3 ml2_3 cl2_3)] 32 (0, 0)) :: L)) al2_0 (fl e_roster_Device xl2_b3.Roster) ∧ xl2_b3.Tickets.length = ml2_1 ∧ ml2_1 ≤ cl2_1 ∧ Rd wl ((b3, .cells #[(.int .i64 xl2_b3.Epoch), (.int .i64 xl2_b3.Owner), (.int .i64 xl2_b3.Next), (.slice al2_0 ml2_0 cl2_0), (.slice al2_1 ml2_1 cl2_1)] 27 (0, 0)) :: ((b4, .cells #[(.int .i64 xl2_b4.Epoch), (.int .i64 xl2_b4.Owner), (.int .i64 xl2_b4.Next), (.slice al2_2 ml2_2 cl2_2), (.slice al2_3 ml2_3 cl2_3)] 32 (0, 0)) :: L)) al2_1 (fl e_ticket_Ticket xl2_b3.Tickets) ∧ xl2_b4.Roster.length = ml2_2 ∧ ml2_2 ≤ cl2_2 ∧ Rd wl ((b3, .cells #[(.int .i64 xl2_b3.Epoch), (.int .i64 xl2_b3.Owner), (.int .i64 xl2_b3.Next), (.slice al2_0 ml2_0 cl2_0), (.slice al2_1 ml2_1 cl2_1)] 27 (0, 0)) :: ((b4, .cells #[(.int .i64 xl2_b4.Epoch), (.int .i64 xl2_b4.Owner), (.int .i64 xl2_b4.Next), (.slice al2_2 ml2_2 cl2_2), (.slice al2_3 ml2_3 cl2_3)] 32 (0, 0)) :: L)) al2_2 (fl e_batonref25_Device xl2_b4.Roster) ∧ xl2_b4.Tickets.length = ml2_3 ∧ ml2_3 ≤ cl2_3 ∧ Rd wl ((b3, .cells #[(.int .i64 xl2_b3.Epoch), (.int .i64 xl2_b3.Owner), (.int .i64 xl2_b3.Next), (.slice al2_0 ml2_0 cl2_0), (.slice al2_1 ml2_1 cl2_1)] 27 (0, 0)) :: ((b4, .cells #[(.int .i64 xl2_b4.Epoch), (.int .i64 xl2_b4.Owner), (.int .i64 xl2_b4.Next), (.slice al2_2 ml2_2 cl2_2), (.slice al2_3 ml2_3 cl2_3)] 32 (0, 0)) :: L)) al2_3 (fl e_batonref26_Ticket xl2_b4.Tickets) ∧ Own wl ((b3, .cells #[(.int .i64 xl2_b3.Epoch), (.int .i64 xl2_b3.Owner), (.int .i64 xl2_b3.Next), (.slice al2_0 ml2_0 cl2_0), (.slice al2_1 ml2_1 cl2_1)] 27 (0, 0)) :: ((b4, .cells #[(.int .i64 xl2_b4.Epoch), (.int .i64 xl2_b4.Owner), (.int .i64 xl2_b4.Next), (.slice al2_2 ml2_2 cl2_2), (.slice al2_3 ml2_3 cl2_3)] 32 (0, 0)) :: L)) ∧ Ext w23 Lc wl ((b3, .cells #[(.int .i64 xl2_b3.Epoch), (.int .i64 xl2_b3.Owner), (.int .i64 xl2_b3.Next), (.slice al2_0 ml2_0 cl2_0), (.slice al2_1 ml2_1 cl2_1)] 27 (0, 0)) :: ((b4, .cells #[(.int .i64 xl2_b4.Epoch), (.int .i64 xl2_b4.Owner), (.int .i64 xl2_b4.Next), (.slice al2_2 ml2_2 cl2_2), (.slice al2_3 ml2_3 cl2_3)] 32 (0, 0)) :: L))) kl454 ?_ ?_
    · skip
      obtain ⟨hO455, e455⟩ := hO24.permE (pmC (pmC pm0))
      have hR456 := (hS15_0.drop hO455).2.2
      obtain ⟨hO456, e456⟩ := hO455.dropS
      obtain ⟨hO457, e457⟩ := hO456.permE (pmC (pmC pm0))
      have hR458 := (hS15_1.drop hO457).2.2
      obtain ⟨hO458, e458⟩ := hO457.dropS
      obtain ⟨hO459, e459⟩ := hO458.permE (pmbC pmb0)
      exact ⟨0, y15, ({ Epoch := 0, Owner := (-1), Next := 1, Roster := [], Tickets := [] } : T_batonref27_State), a15_0, m15_0, c15_0, a15_1, m15_1, c15_1, none, 0, 0, none, 0, 0, hkl454, rfl, rfl, rfl, rfl, hm15_0, hS15_0.le.1, (hR456.ext (e457.trans (e458.trans e459))), hm15_1, hS15_1.le.1, (hR458.ext e459), rfl, (Nat.le_refl _), (Rd.nil _ _ _), rfl, (Nat.le_refl _), (Rd.nil _ _ _), hO459, (e455.trans (e456.trans (e457.trans (e458.trans e459))))⟩
    clear hkl454
    intro mm454 gg454 w454 hI454
    obtain ⟨xl2_t5, xl2_b3, xl2_b4, al2_0, ml2_0, cl2_0, al2_1, ml2_1, cl2_1, al2_2, ml2_2, cl2_2, al2_3, ml2_3, cl2_3, hkl454, hsl2_0, hsl2_3, hsl2_4, hsl2_5, hml2_0, hcl2_0, hRl2_0, hml2_1, hcl2_1, hRl2_1, hml2_2, hcl2_2, hRl2_2, hml2_3, hcl2_3, hRl2_3, hO454, e454⟩ := hI454
    obtain ⟨kl454, yl454, rfl, h, hyl454⟩ := iterE hkl454
    clear hkl454
    obtain ⟨qq454, rfl⟩ := fr4 hsl2_0 hsl2_3 hsl2_4 hsl2_5
    clear hsl2_0 hsl2_3 hsl2_4 hsl2_5
    refine c_seq ?_
    have hR0p := (hR0p.ext e454)
    obtain ⟨oc460, G460, hG460, h, hr460⟩ := bindG h
    refine c_cutL hO454 (fun Lc f0 g w' => ∃ (xc3_t20 : Bool), (G460 xc3_t20 = some yl454) ∧ g 0 = (.slice aP0 mP0 cP0) ∧ g 3 = (.pointer (some ⟨b3, 0, none⟩)) ∧ g 4 = (.pointer (some ⟨b4, 0, none⟩)) ∧ g 5 = (.int .i64 xl2_t5) ∧ g 20 = (.bool xc3_t20) ∧ Own w' ((b3, .cells #[(.int .i64 xl2_b3.Epoch), (.int .i64 xl2_b3.Owner), (.int .i64 xl2_b3.Next), (.slice al2_0 ml2_0 cl2_0), (.slice al2_1 ml2_1 cl2_1)] 27 (0, 0)) :: ((b4, .cells #[(.int .i64 xl2_b4.Epoch), (.int .i64 xl2_b4.Owner), (.int .i64 xl2_b4.Next), (.slice al2_2 ml2_2 cl2_2), (.slice al2_3 ml2_3 cl2_3)] 32 (0, 0)) :: L)) ∧ Ext w454 Lc w' ((b3, .cells #[(.int .i64 xl2_b3.Epoch), (.int .i64 xl2_b3.Owner), (.int .i64 xl2_b3.Next), (.slice al2_0 ml2_0 cl2_0), (.slice al2_1 ml2_1 cl2_1)] 27 (0, 0)) :: ((b4, .cells #[(.int .i64 xl2_b4.Epoch), (.int .i64 xl2_b4.Owner), (.int .i64 xl2_b4.Next), (.slice al2_2 ml2_2 cl2_2), (.slice al2_3 ml2_3 cl2_3)] 32 (0, 0)) :: L))) ?_ ?_
    · skip
      refine c_reg ?_
      refine sv (r_move (v := .int _ _) rfl) ?_
      refine sv (r_move (v := .slice _ _ _) rfl) ?_
      refine sv (r_lenL (xs := x0) Try.underlying22 rfl hm0p) ?_
      refine c_lss rfl rfl (fun h20 => ?_) (fun h20 => ?_)
      · replace h := iT h20 h
        refine s_nil ?_
        refine c_next ?_
        rw [← Option.some.inj h] at hr460
        exact ⟨_, rfl, true, hr460, rfl, rfl, rfl, rfl, rfl, hO454, (Ext.refl _ _)⟩
      replace h := iF (Int.not_lt.2 h20) h
      refine s_nil ?_
      refine c_next ?_
      rw [← Option.some.inj h] at hr460
      exact ⟨_, rfl, false, hr460, rfl, rfl, rfl, rfl, rfl, hO454, (Ext.refl _ _)⟩
    intro gg460 w460 hI460
    clear h hr460
    obtain ⟨xc3_t20, h, hsc3_0, hsc3_3, hsc3_4, hsc3_5, hsc3_20, hO460, e460⟩ := hI460
    replace h := hG_ hG460 h; clear hG460
    obtain ⟨qq460, rfl⟩ := fr5 hsc3_0 hsc3_3 hsc3_4 hsc3_5 hsc3_20
    clear hsc3_0 hsc3_3 hsc3_4 hsc3_5 hsc3_20
    rcases Bool.eq_false_or_eq_true (xc3_t20) with hb461 | hb461
    · replace h := iT hb461 h
      refine c_condT (congrArg Value.bool hb461) ?_
      refine c_skip ?_
      refine c_next ?_
      refine c_seq ?_
      refine c_block ?_
      have hR0p := (hR0p.ext e460)
      have hRl2_0 := (hRl2_0.ext e460)
      have hRl2_1 := (hRl2_1.ext e460)
      have hRl2_2 := (hRl2_2.ext e460)
      have hRl2_3 := (hRl2_3.ext e460)
      obtain ⟨oc492, G492, hG492, h, hr492⟩ := bindG h
      refine c_cutL hO460 (fun Lc f0 g w' => ∃ (xc4_t7 : Int) (xc4_b6 : T_claim_State) (b6 : Nat) (ac4_0 : Option Addr) (mc4_0 cc4_0 : Nat) (Sc4_0 : Hp) (ac4_1 : Option Addr) (mc4_1 cc4_1 : Nat) (Sc4_1 : Hp), (G492 (xc4_t7, xc4_b6) = some yl454) ∧ g 0 = (.slice aP0 mP0 cP0) ∧ g 3 = (.pointer (some ⟨b3, 0, none⟩)) ∧ g 4 = (.pointer (some ⟨b4, 0, none⟩)) ∧ g 5 = (.int .i64 xl2_t5) ∧ g 6 = (.pointer (some ⟨b6, 0, none⟩)) ∧ g 7 = (.int .i64 xc4_t7) ∧ xc4_b6.Roster.length = mc4_0 ∧ OwnSl 56 4 ac4_0 mc4_0 cc4_0 (fl e_roster_Device xc4_b6.Roster) Sc4_0 ∧ xc4_b6.Tickets.length = mc4_1 ∧ OwnSl 59 3 ac4_1 mc4_1 cc4_1 (fl e_ticket_Ticket xc4_b6.Tickets) Sc4_1 ∧ Own w' (Sc4_0 ++ (Sc4_1 ++ ((b3, .cells #[(.int .i64 xl2_b3.Epoch), (.int .i64 xl2_b3.Owner), (.int .i64 xl2_b3.Next), (.slice al2_0 ml2_0 cl2_0), (.slice al2_1 ml2_1 cl2_1)] 27 (0, 0)) :: ((b4, .cells #[(.int .i64 xl2_b4.Epoch), (.int .i64 xl2_b4.Owner), (.int .i64 xl2_b4.Next), (.slice al2_2 ml2_2 cl2_2), (.slice al2_3 ml2_3 cl2_3)] 32 (0, 0)) :: ((b6, .cells #[(.int .i64 xc4_b6.Epoch), (.int .i64 xc4_b6.Owner), (.int .i64 xc4_b6.Next), (.slice ac4_0 mc4_0 cc4_0), (.slice ac4_1 mc4_1 cc4_1)] 27 (0, 0)) :: L))))) ∧ Ext w460 Lc w' (Sc4_0 ++ (Sc4_1 ++ ((b3, .cells #[(.int .i64 xl2_b3.Epoch), (.int .i64 xl2_b3.Owner), (.int .i64 xl2_b3.Next), (.slice al2_0 ml2_0 cl2_0), (.slice al2_1 ml2_1 cl2_1)] 27 (0, 0)) :: ((b4, .cells #[(.int .i64 xl2_b4.Epoch), (.int .i64 xl2_b4.Owner), (.int .i64 xl2_b4.Next), (.slice al2_2 ml2_2 cl2_2), (.slice al2_3 ml2_3 cl2_3)] 32 (0, 0)) :: ((b6, .cells #[(.int .i64 xc4_b6.Epoch), (.int .i64 xc4_b6.Owner), (.int .i64 xc4_b6.Next), (.slice ac4_0 mc4_0 cc4_0), (.slice ac4_1 mc4_1 cc4_1)] 27 (0, 0)) :: L)))))) ?_ ?_
      · skip
        refine d_startL hO460 (hO460.perm (pmbC pmb0)).t 11 (by kernel_rfl) (pk_then (pk_block (pk_then (pk_then (pk_block (pk_then pk_body)))))) ?_
        intro hP494 wd494 hK494 hO493 e493
        refine dT (i := 0) (listed' := #[I_,O_,O_,O_,O_,O_,O_,O_,O_,O_,O_,O_]) rfl hP494 hK494 (fun wS hS => (rl_all Try.underlying27 rfl I27 rfl (hS.own.get (i := 0) rfl) rfl rfl)) ?_
        refine dT (i := 1) (listed' := #[I_,I_,O_,O_,O_,O_,O_,O_,O_,O_,O_,O_]) rfl hP494 hK494 (fun wS hS => (r_move (v := .slice _ _ _) rfl)) ?_
        refine dT (i := 2) (listed' := #[I_,I_,I_,O_,O_,O_,O_,O_,O_,O_,O_,O_]) rfl hP494 hK494 (fun wS hS => (r_move (v := .int _ _) rfl)) ?_
        obtain ⟨y27, hy27, h⟩ := bindE h
        obtain ⟨ad27, had27, hk27⟩ := ix_known (e := e_claim_Op) (Rd.cs hR0p) e_claim_Op_len (by decide) hy27
        have hx27 : Value.slice aP0 mP0 cP0 = .slice (some ad27) mP0 cP0 := by rw [had27]
        refine dT (i := 3) (listed' := #[I_,I_,I_,I_,O_,O_,O_,O_,O_,O_,O_,O_]) rfl hP494 hK494 (fun wS hS => (ra_idx (xs := x0) (i := xl2_t5) Try.underlying22 I37 (by exact hx27) (by rfl) hm0p hy27)) ?_
        refine dT (i := 4) (listed' := #[I_,I_,I_,I_,I_,O_,O_,O_,O_,O_,O_,O_]) rfl hP494 hK494 (fun wS hS => (r_loadN (cs := [(.int .i64 y27.Kind), (.int .i64 y27.Device), (.int .i64 y27.Request), (.int .i64 y27.Ticket), (.int .i64 y27.For), (.int .i64 y27.Until), (.int .i64 y27.Now)]) Try.underlying37 rfl I37 rfl rfl (hk27 _ (hR0p.kept hS)))) ?_
        refine d_two (i := 5) (j := 9) (l1 := #[I_,I_,I_,I_,I_,I_,O_,O_,O_,O_,O_,O_]) (l2 := #[I_,I_,I_,I_,I_,O_,O_,O_,O_,I_,O_,O_]) (by rfl) (by rfl) (by kernel_rfl) (by rfl) (by rfl) ?_ ?_
        · skip
          obtain ⟨y29, hy29, h⟩ := bindE h
          refine s_call cf9 rfl (c_claim_Do xl2_b3 y27 al2_0 ml2_0 cl2_0 al2_1 ml2_1 cl2_1 _ hy29 _ _ hml2_0 hcl2_0 (hRl2_0.ext e493) hml2_1 hcl2_1 (hRl2_1.ext e493) hO493) ?_
          rintro er29 w495 ⟨a29_0, m29_0, c29_0, S29_0, a29_1, m29_1, c29_1, S29_1, rfl, hm29_0, hS29_0, hm29_1, hS29_1, hO495, e495⟩
          refine ⟨_, rfl, ?_⟩
          have hK496 : Kept w460 _ _ w495 := Kept.to (e493.trans e495) (hO495.r.r.perm (pmbC pmb0)).t
          refine d_back hK496 ?_
          refine dT (i := 6) (listed' := #[I_,I_,I_,I_,I_,I_,I_,O_,O_,O_,O_,O_]) rfl hP494 hK496 (fun wS hS => (r_move (v := .tuple _) rfl)) ?_
          refine dT (i := 7) (listed' := #[I_,I_,I_,I_,I_,I_,I_,I_,O_,O_,O_,O_]) rfl hP494 hK496 (fun wS hS => (r_extract rfl rfl)) ?_
          refine dT (i := 8) (listed' := #[I_,I_,I_,I_,I_,I_,I_,I_,I_,O_,O_,O_]) rfl hP494 hK496 (fun wS hS => (r_extract rfl rfl)) ?_
          refine d1 (i := 9) (listed' := #[I_,I_,I_,I_,I_,I_,I_,I_,I_,I_,O_,O_]) ?_
          refine s_alloc I27 hO495 ?_
          intro b6 w497 hz6 hl6 hO497 e497
          have hO498 : Own w497 ((b6, .cells #[(.int .i64 0), (.int .i64 0), (.int .i64 0), (.slice none 0 0), (.slice none 0 0)] 27 (0, 0)) :: (S29_0 ++ (S29_1 ++ ((b3, .cells #[(.int .i64 xl2_b3.Epoch), (.int .i64 xl2_b3.Owner), (.int .i64 xl2_b3.Next), (.slice al2_0 ml2_0 cl2_0), (.slice al2_1 ml2_1 cl2_1)] 27 (0, 0)) :: ((b4, .cells #[(.int .i64 xl2_b4.Epoch), (.int .i64 xl2_b4.Owner), (.int .i64 xl2_b4.Next), (.slice al2_2 ml2_2 cl2_2), (.slice al2_3 ml2_3 cl2_3)] 32 (0, 0)) :: L))))) := hO497
          have hK500 : Kept w460 _ _ w497 := Kept.to (e493.trans (e495.trans e497)) (hO498.t.r.r.perm (pmbC pmb0)).t
          refine d_back hK500 ?_
          refine d1 (i := 10) (listed' := #[I_,I_,I_,I_,I_,I_,I_,I_,I_,I_,I_,O_]) ?_
          refine s_storeN (vs := #[(.int .i64 y29.1.Epoch), (.int .i64 y29.1.Owner), (.int .i64 y29.1.Next), (.slice a29_0 m29_0 c29_0), (.slice a29_1 m29_1 c29_1)]) I27 rfl rfl rfl hO498 (i := 0) rfl (Nat.le_of_ble_eq_true rfl) (List.all_eq_true.1 rfl) ?_
          intro w501 hO501 e501
          have hO502 : Own w501 ((b6, .cells #[(.int .i64 y29.1.Epoch), (.int .i64 y29.1.Owner), (.int .i64 y29.1.Next), (.slice a29_0 m29_0 c29_0), (.slice a29_1 m29_1 c29_1)] 27 (0, 0)) :: (S29_0 ++ (S29_1 ++ ((b3, .cells #[(.int .i64 xl2_b3.Epoch), (.int .i64 xl2_b3.Owner), (.int .i64 xl2_b3.Next), (.slice al2_0 ml2_0 cl2_0), (.slice al2_1 ml2_1 cl2_1)] 27 (0, 0)) :: ((b4, .cells #[(.int .i64 xl2_b4.Epoch), (.int .i64 xl2_b4.Owner), (.int .i64 xl2_b4.Next), (.slice al2_2 ml2_2 cl2_2), (.slice al2_3 ml2_3 cl2_3)] 32 (0, 0)) :: L))))) := hO501
          have hK504 : Kept w460 _ _ w501 := Kept.to (e493.trans (e495.trans (e497.trans e501))) (hO502.t.r.r.perm (pmbC pmb0)).t
          refine d_back hK504 ?_
          refine d1 (i := 11) (listed' := #[I_,I_,I_,I_,I_,I_,I_,I_,I_,I_,I_,I_]) ?_
          refine sv (r_assign (v := .int _ _) rfl) ?_
          refine d_tail rfl ?_
          refine d_done (by kernel_rfl) ?_
          refine c_next ?_
          rw [← Option.some.inj h] at hr492
          obtain ⟨hO505, e505⟩ := hO502.permE (pmbC (pmbA (pmbA (pmbC pmb0))))
          obtain ⟨hO506, e506⟩ := hO505.permE (pmbC (pmbC (pmbA (pmbA pmb0))))
          obtain ⟨hO507, e507⟩ := hO506.permE (pmC (pmC (pmC (pmA pm0))))
          obtain ⟨hO508, e508⟩ := hO507.permE (pmA (pmC (pmC (pmC pm0))))
          exact ⟨_, rfl, y29.2, ({ Epoch := y29.1.Epoch, Owner := y29.1.Owner, Next := y29.1.Next, Roster := y29.1.Roster, Tickets := y29.1.Tickets } : T_claim_State), b6, a29_0, m29_0, c29_0, S29_0, a29_1, m29_1, c29_1, S29_1, hr492, rfl, rfl, rfl, rfl, rfl, rfl, hm29_0, hS29_0, hm29_1, hS29_1, hO508, (e493.trans (e495.trans (e497.trans (e501.trans (e505.trans (e506.trans (e507.trans e508)))))))⟩
        refine s_alloc I27 hO493 ?_
        intro b6 w509 hz6 hl6 hO509 e509
        have hO510 : Own w509 ((b6, .cells #[(.int .i64 0), (.int .i64 0), (.int .i64 0), (.slice none 0 0), (.slice none 0 0)] 27 (0, 0)) :: ((b3, .cells #[(.int .i64 xl2_b3.Epoch), (.int .i64 xl2_b3.Owner), (.int .i64 xl2_b3.Next), (.slice al2_0 ml2_0 cl2_0), (.slice al2_1 ml2_1 cl2_1)] 27 (0, 0)) :: ((b4, .cells #[(.int .i64 xl2_b4.Epoch), (.int .i64 xl2_b4.Owner), (.int .i64 xl2_b4.Next), (.slice al2_2 ml2_2 cl2_2), (.slice al2_3 ml2_3 cl2_3)] 32 (0, 0)) :: L))) := hO509
        have hK512 : Kept w460 _ _ w509 := Kept.to (e493.trans e509) (hO510.t.perm (pmbC pmb0)).t
        refine d_back hK512 ?_
        refine d1 (i := 5) (listed' := #[I_,I_,I_,I_,I_,I_,O_,O_,O_,I_,O_,O_]) ?_
        obtain ⟨y29, hy29, h⟩ := bindE h
        refine s_call cf9 rfl (c_claim_Do xl2_b3 y27 al2_0 ml2_0 cl2_0 al2_1 ml2_1 cl2_1 _ hy29 _ _ hml2_0 hcl2_0 (hRl2_0.ext (e493.trans e509)) hml2_1 hcl2_1 (hRl2_1.ext (e493.trans e509)) hO510) ?_
        rintro er29 w513 ⟨a29_0, m29_0, c29_0, S29_0, a29_1, m29_1, c29_1, S29_1, rfl, hm29_0, hS29_0, hm29_1, hS29_1, hO513, e513⟩
        refine ⟨_, rfl, ?_⟩
        have hK514 : Kept w460 _ _ w513 := Kept.to (e493.trans (e509.trans e513)) (hO513.r.r.t.perm (pmbC pmb0)).t
        refine d_back hK514 ?_
        refine dT (i := 6) (listed' := #[I_,I_,I_,I_,I_,I_,I_,O_,O_,I_,O_,O_]) rfl hP494 hK514 (fun wS hS => (r_move (v := .tuple _) rfl)) ?_
        refine dT (i := 7) (listed' := #[I_,I_,I_,I_,I_,I_,I_,I_,O_,I_,O_,O_]) rfl hP494 hK514 (fun wS hS => (r_extract rfl rfl)) ?_
        refine dT (i := 8) (listed' := #[I_,I_,I_,I_,I_,I_,I_,I_,I_,I_,O_,O_]) rfl hP494 hK514 (fun wS hS => (r_extract rfl rfl)) ?_
        refine d1 (i := 10) (listed' := #[I_,I_,I_,I_,I_,I_,I_,I_,I_,I_,I_,O_]) ?_
        obtain ⟨hO516, e516⟩ := hO513.permE (pmbA (pmbA pmb0))
        refine s_storeN (vs := #[(.int .i64 y29.1.Epoch), (.int .i64 y29.1.Owner), (.int .i64 y29.1.Next), (.slice a29_0 m29_0 c29_0), (.slice a29_1 m29_1 c29_1)]) I27 rfl rfl rfl hO516 (i := 0) rfl (Nat.le_of_ble_eq_true rfl) (List.all_eq_true.1 rfl) ?_
        intro w515 hO515 e515
        have hO517 : Own w515 ((b6, .cells #[(.int .i64 y29.1.Epoch), (.int .i64 y29.1.Owner), (.int .i64 y29.1.Next), (.slice a29_0 m29_0 c29_0), (.slice a29_1 m29_1 c29_1)] 27 (0, 0)) :: (S29_0 ++ (S29_1 ++ ((b3, .cells #[(.int .i64 xl2_b3.Epoch), (.int .i64 xl2_b3.Owner), (.int .i64 xl2_b3.Next), (.slice al2_0 ml2_0 cl2_0), (.slice al2_1 ml2_1 cl2_1)] 27 (0, 0)) :: ((b4, .cells #[(.int .i64 xl2_b4.Epoch), (.int .i64 xl2_b4.Owner), (.int .i64 xl2_b4.Next), (.slice al2_2 ml2_2 cl2_2), (.slice al2_3 ml2_3 cl2_3)] 32 (0, 0)) :: L))))) := hO515
        have hK519 : Kept w460 _ _ w515 := Kept.to (e493.trans (e509.trans (e513.trans (e516.trans e515)))) (hO517.t.r.r.perm (pmbC pmb0)).t
        refine d_back hK519 ?_
        refine d1 (i := 11) (listed' := #[I_,I_,I_,I_,I_,I_,I_,I_,I_,I_,I_,I_]) ?_
        refine sv (r_assign (v := .int _ _) rfl) ?_
        refine d_tail rfl ?_
        refine d_done (by kernel_rfl) ?_
        refine c_next ?_
        rw [← Option.some.inj h] at hr492
        obtain ⟨hO520, e520⟩ := hO517.permE (pmbC (pmbA (pmbA (pmbC pmb0))))
        obtain ⟨hO521, e521⟩ := hO520.permE (pmbC (pmbC (pmbA (pmbA pmb0))))
        obtain ⟨hO522, e522⟩ := hO521.permE (pmC (pmC (pmC (pmA pm0))))
        obtain ⟨hO523, e523⟩ := hO522.permE (pmA (pmC (pmC (pmC pm0))))
        exact ⟨_, rfl, y29.2, ({ Epoch := y29.1.Epoch, Owner := y29.1.Owner, Next := y29.1.Next, Roster := y29.1.Roster, Tickets := y29.1.Tickets } : T_claim_State), b6, a29_0, m29_0, c29_0, S29_0, a29_1, m29_1, c29_1, S29_1, hr492, rfl, rfl, rfl, rfl, rfl, rfl, hm29_0, hS29_0, hm29_1, hS29_1, hO523, (e493.trans (e509.trans (e513.trans (e516.trans (e515.trans (e520.trans (e521.trans (e522.trans e523))))))))⟩
      intro gg492 w492 hI492
      clear h hr492
      obtain ⟨xc4_t7, xc4_b6, b6, ac4_0, mc4_0, cc4_0, Sc4_0, ac4_1, mc4_1, cc4_1, Sc4_1, h, hsc4_0, hsc4_3, hsc4_4, hsc4_5, hsc4_6, hsc4_7, hmc4_0, hSc4_0, hmc4_1, hSc4_1, hO492, e492⟩ := hI492
      replace h := hG_ hG492 h; clear hG492
      obtain ⟨qq492, rfl⟩ := fr6 hsc4_0 hsc4_3 hsc4_4 hsc4_5 hsc4_6 hsc4_7
      clear hsc4_0 hsc4_3 hsc4_4 hsc4_5 hsc4_6 hsc4_7
      have hR0p := (hR0p.ext e492)
      have hRl2_0 := (hRl2_0.ext e492)
      have hRl2_1 := (hRl2_1.ext e492)
      have hRl2_2 := (hRl2_2.ext e492)
      have hRl2_3 := (hRl2_3.ext e492)
      obtain ⟨oc572, G572, hG572, h, hr572⟩ := bindG h
      refine c_cutL hO492 (fun Lc f0 g w' => ∃ (xc5_t9 : Int) (xc5_b8 : T_batonref27_State) (b8 : Nat) (ac5_0 : Option Addr) (mc5_0 cc5_0 : Nat) (ac5_1 : Option Addr) (mc5_1 cc5_1 : Nat), (G572 (xc5_t9, xc5_b8) = some yl454) ∧ g 0 = (.slice aP0 mP0 cP0) ∧ g 3 = (.pointer (some ⟨b3, 0, none⟩)) ∧ g 4 = (.pointer (some ⟨b4, 0, none⟩)) ∧ g 5 = (.int .i64 xl2_t5) ∧ g 6 = (.pointer (some ⟨b6, 0, none⟩)) ∧ g 7 = (.int .i64 xc4_t7) ∧ g 8 = (.pointer (some ⟨b8, 0, none⟩)) ∧ g 9 = (.int .i64 xc5_t9) ∧ xc5_b8.Roster.length = mc5_0 ∧ mc5_0 ≤ cc5_0 ∧ Rd w' (Sc4_0 ++ (Sc4_1 ++ ((b3, .cells #[(.int .i64 xl2_b3.Epoch), (.int .i64 xl2_b3.Owner), (.int .i64 xl2_b3.Next), (.slice al2_0 ml2_0 cl2_0), (.slice al2_1 ml2_1 cl2_1)] 27 (0, 0)) :: ((b4, .cells #[(.int .i64 xl2_b4.Epoch), (.int .i64 xl2_b4.Owner), (.int .i64 xl2_b4.Next), (.slice al2_2 ml2_2 cl2_2), (.slice al2_3 ml2_3 cl2_3)] 32 (0, 0)) :: ((b6, .cells #[(.int .i64 xc4_b6.Epoch), (.int .i64 xc4_b6.Owner), (.int .i64 xc4_b6.Next), (.slice ac4_0 mc4_0 cc4_0), (.slice ac4_1 mc4_1 cc4_1)] 27 (0, 0)) :: ((b8, .cells #[(.int .i64 xc5_b8.Epoch), (.int .i64 xc5_b8.Owner), (.int .i64 xc5_b8.Next), (.slice ac5_0 mc5_0 cc5_0), (.slice ac5_1 mc5_1 cc5_1)] 32 (0, 0)) :: L)))))) ac5_0 (fl e_batonref25_Device xc5_b8.Roster) ∧ xc5_b8.Tickets.length = mc5_1 ∧ mc5_1 ≤ cc5_1 ∧ Rd w' (Sc4_0 ++ (Sc4_1 ++ ((b3, .cells #[(.int .i64 xl2_b3.Epoch), (.int .i64 xl2_b3.Owner), (.int .i64 xl2_b3.Next), (.slice al2_0 ml2_0 cl2_0), (.slice al2_1 ml2_1 cl2_1)] 27 (0, 0)) :: ((b4, .cells #[(.int .i64 xl2_b4.Epoch), (.int .i64 xl2_b4.Owner), (.int .i64 xl2_b4.Next), (.slice al2_2 ml2_2 cl2_2), (.slice al2_3 ml2_3 cl2_3)] 32 (0, 0)) :: ((b6, .cells #[(.int .i64 xc4_b6.Epoch), (.int .i64 xc4_b6.Owner), (.int .i64 xc4_b6.Next), (.slice ac4_0 mc4_0 cc4_0), (.slice ac4_1 mc4_1 cc4_1)] 27 (0, 0)) :: ((b8, .cells #[(.int .i64 xc5_b8.Epoch), (.int .i64 xc5_b8.Owner), (.int .i64 xc5_b8.Next), (.slice ac5_0 mc5_0 cc5_0), (.slice ac5_1 mc5_1 cc5_1)] 32 (0, 0)) :: L)))))) ac5_1 (fl e_batonref26_Ticket xc5_b8.Tickets) ∧ Own w' (Sc4_0 ++ (Sc4_1 ++ ((b3, .cells #[(.int .i64 xl2_b3.Epoch), (.int .i64 xl2_b3.Owner), (.int .i64 xl2_b3.Next), (.slice al2_0 ml2_0 cl2_0), (.slice al2_1 ml2_1 cl2_1)] 27 (0, 0)) :: ((b4, .cells #[(.int .i64 xl2_b4.Epoch), (.int .i64 xl2_b4.Owner), (.int .i64 xl2_b4.Next), (.slice al2_2 ml2_2 cl2_2), (.slice al2_3 ml2_3 cl2_3)] 32 (0, 0)) :: ((b6, .cells #[(.int .i64 xc4_b6.Epoch), (.int .i64 xc4_b6.Owner), (.int .i64 xc4_b6.Next), (.slice ac4_0 mc4_0 cc4_0), (.slice ac4_1 mc4_1 cc4_1)] 27 (0, 0)) :: ((b8, .cells #[(.int .i64 xc5_b8.Epoch), (.int .i64 xc5_b8.Owner), (.int .i64 xc5_b8.Next), (.slice ac5_0 mc5_0 cc5_0), (.slice ac5_1 mc5_1 cc5_1)] 32 (0, 0)) :: L)))))) ∧ Ext w492 Lc w' (Sc4_0 ++ (Sc4_1 ++ ((b3, .cells #[(.int .i64 xl2_b3.Epoch), (.int .i64 xl2_b3.Owner), (.int .i64 xl2_b3.Next), (.slice al2_0 ml2_0 cl2_0), (.slice al2_1 ml2_1 cl2_1)] 27 (0, 0)) :: ((b4, .cells #[(.int .i64 xl2_b4.Epoch), (.int .i64 xl2_b4.Owner), (.int .i64 xl2_b4.Next), (.slice al2_2 ml2_2 cl2_2), (.slice al2_3 ml2_3 cl2_3)] 32 (0, 0)) :: ((b6, .cells #[(.int .i64 xc4_b6.Epoch), (.int .i64 xc4_b6.Owner), (.int .i64 xc4_b6.Next), (.slice ac4_0 mc4_0 cc4_0), (.slice ac4_1 mc4_1 cc4_1)] 27 (0, 0)) :: ((b8, .cells #[(.int .i64 xc5_b8.Epoch), (.int .i64 xc5_b8.Owner), (.int .i64 xc5_b8.Next), (.slice ac5_0 mc5_0 cc5_0), (.slice ac5_1 mc5_1 cc5_1)] 32 (0, 0)) :: L))))))) ?_ ?_
      · skip
        refine d_startL hO492 (hO492.r.r.t.perm (pmbC pmb0)).t 12 (by kernel_rfl) (pk_then (pk_block (pk_then (pk_then (pk_block (pk_then pk_body)))))) ?_
        intro hP574 wd574 hK574 hO573 e573
        refine dT (i := 0) (listed' := #[I_,O_,O_,O_,O_,O_,O_,O_,O_,O_,O_,O_,O_]) rfl hP574 hK574 (fun wS hS => (rl_all Try.underlying32 rfl I32 rfl (hS.own.get (i := 0) rfl) rfl rfl)) ?_
        refine dT (i := 1) (listed' := #[I_,I_,O_,O_,O_,O_,O_,O_,O_,O_,O_,O_,O_]) rfl hP574 hK574 (fun wS hS => (r_move (v := .slice _ _ _) rfl)) ?_
        refine dT (i := 2) (listed' := #[I_,I_,I_,O_,O_,O_,O_,O_,O_,O_,O_,O_,O_]) rfl hP574 hK574 (fun wS hS => (r_move (v := .int _ _) rfl)) ?_
        obtain ⟨y36, hy36, h⟩ := bindE h
        obtain ⟨ad36, had36, hk36⟩ := ix_known (e := e_claim_Op) (Rd.cs hR0p) e_claim_Op_len (by decide) hy36
        have hx36 : Value.slice aP0 mP0 cP0 = .slice (some ad36) mP0 cP0 := by rw [had36]
        refine dT (i := 3) (listed' := #[I_,I_,I_,I_,O_,O_,O_,O_,O_,O_,O_,O_,O_]) rfl hP574 hK574 (fun wS hS => (ra_idx (xs := x0) (i := xl2_t5) Try.underlying22 I37 (by exact hx36) (by rfl) hm0p hy36)) ?_
        refine dT (i := 4) (listed' := #[I_,I_,I_,I_,I_,O_,O_,O_,O_,O_,O_,O_,O_]) rfl hP574 hK574 (fun wS hS => (r_loadN (cs := [(.int .i64 y36.Kind), (.int .i64 y36.Device), (.int .i64 y36.Request), (.int .i64 y36.Ticket), (.int .i64 y36.For), (.int .i64 y36.Until), (.int .i64 y36.Now)]) Try.underlying37 rfl I37 rfl rfl (hk36 _ (hR0p.kept hS)))) ?_
        refine d_two (i := 5) (j := 10) (l1 := #[I_,I_,I_,I_,I_,I_,O_,O_,O_,O_,O_,O_,O_]) (l2 := #[I_,I_,I_,I_,I_,O_,O_,O_,O_,O_,I_,O_,O_]) (by rfl) (by rfl) (by kernel_rfl) (by rfl) (by rfl) ?_ ?_
        · skip
          obtain ⟨y38, hy38, h⟩ := bindE h
          refine s_call cf11 rfl (c_batonlaw27_RefOp y36 _ hy38 _ _ hO573) ?_
          rintro er38 w575 ⟨rfl, hO575, e575⟩
          refine ⟨_, rfl, ?_⟩
          have hK576 : Kept w492 _ _ w575 := Kept.to (e573.trans e575) (hO575.r.r.t.perm (pmbC pmb0)).t
          refine d_back hK576 ?_
          refine d_two (i := 6) (j := 10) (l1 := #[I_,I_,I_,I_,I_,I_,I_,O_,O_,O_,O_,O_,O_]) (l2 := #[I_,I_,I_,I_,I_,I_,O_,O_,O_,O_,I_,O_,O_]) (by rfl) (by rfl) (by kernel_rfl) (by rfl) (by rfl) ?_ ?_
          · skip
            obtain ⟨y39, hy39, h⟩ := bindE h
            refine s_call cf10 rfl (c_batonref27_Do xl2_b4 y38 al2_2 ml2_2 cl2_2 al2_3 ml2_3 cl2_3 _ hy39 _ _ hml2_2 hcl2_2 (hRl2_2.ext (e573.trans e575)) hml2_3 hcl2_3 (hRl2_3.ext (e573.trans e575)) hO575) ?_
            rintro er39 w577 ⟨a39_0, m39_0, c39_0, a39_1, m39_1, c39_1, rfl, hm39_0, hc39_0, hR39_0, hm39_1, hc39_1, hR39_1, hO577, e577⟩
            refine ⟨_, rfl, ?_⟩
            have hK578 : Kept w492 _ _ w577 := Kept.to (e573.trans (e575.trans e577)) (hO577.r.r.t.perm (pmbC pmb0)).t
            refine d_back hK578 ?_
            refine dT (i := 7) (listed' := #[I_,I_,I_,I_,I_,I_,I_,I_,O_,O_,O_,O_,O_]) rfl hP574 hK578 (fun wS hS => (r_move (v := .tuple _) rfl)) ?_
            refine dT (i := 8) (listed' := #[I_,I_,I_,I_,I_,I_,I_,I_,I_,O_,O_,O_,O_]) rfl hP574 hK578 (fun wS hS => (r_extract rfl rfl)) ?_
            refine dT (i := 9) (listed' := #[I_,I_,I_,I_,I_,I_,I_,I_,I_,I_,O_,O_,O_]) rfl hP574 hK578 (fun wS hS => (r_extract rfl rfl)) ?_
            refine d1 (i := 10) (listed' := #[I_,I_,I_,I_,I_,I_,I_,I_,I_,I_,I_,O_,O_]) ?_
            refine s_alloc I32 hO577 ?_
            intro b8 w579 hz8 hl8 hO579 e579
            have hO580 : Own w579 ((b8, .cells #[(.int .i64 0), (.int .i64 0), (.int .i64 0), (.slice none 0 0), (.slice none 0 0)] 32 (0, 0)) :: (Sc4_0 ++ (Sc4_1 ++ ((b3, .cells #[(.int .i64 xl2_b3.Epoch), (.int .i64 xl2_b3.Owner), (.int .i64 xl2_b3.Next), (.slice al2_0 ml2_0 cl2_0), (.slice al2_1 ml2_1 cl2_1)] 27 (0, 0)) :: ((b4, .cells #[(.int .i64 xl2_b4.Epoch), (.int .i64 xl2_b4.Owner), (.int .i64 xl2_b4.Next), (.slice al2_2 ml2_2 cl2_2), (.slice al2_3 ml2_3 cl2_3)] 32 (0, 0)) :: ((b6, .cells #[(.int .i64 xc4_b6.Epoch), (.int .i64 xc4_b6.Owner), (.int .i64 xc4_b6.Next), (.slice ac4_0 mc4_0 cc4_0), (.slice ac4_1 mc4_1 cc4_1)] 27 (0, 0)) :: L)))))) := hO579
            have hK582 : Kept w492 _ _ w579 := Kept.to (e573.trans (e575.trans (e577.trans e579))) (hO580.t.r.r.t.perm (pmbC pmb0)).t
            refine d_back hK582 ?_
            refine d1 (i := 11) (listed' := #[I_,I_,I_,I_,I_,I_,I_,I_,I_,I_,I_,I_,O_]) ?_
            refine s_storeN (vs := #[(.int .i64 y39.1.Epoch), (.int .i64 y39.1.Owner), (.int .i64 y39.1.Next), (.slice a39_0 m39_0 c39_0), (.slice a39_1 m39_1 c39_1)]) I32 rfl rfl rfl hO580 (i := 0) rfl (Nat.le_of_ble_eq_true rfl) (List.all_eq_true.1 rfl) ?_
            intro w583 hO583 e583
            have hO584 : Own w583 ((b8, .cells #[(.int .i64 y39.1.Epoch), (.int .i64 y39.1.Owner), (.int .i64 y39.1.Next), (.slice a39_0 m39_0 c39_0), (.slice a39_1 m39_1 c39_1)] 32 (0, 0)) :: (Sc4_0 ++ (Sc4_1 ++ ((b3, .cells #[(.int .i64 xl2_b3.Epoch), (.int .i64 xl2_b3.Owner), (.int .i64 xl2_b3.Next), (.slice al2_0 ml2_0 cl2_0), (.slice al2_1 ml2_1 cl2_1)] 27 (0, 0)) :: ((b4, .cells #[(.int .i64 xl2_b4.Epoch), (.int .i64 xl2_b4.Owner), (.int .i64 xl2_b4.Next), (.slice al2_2 ml2_2 cl2_2), (.slice al2_3 ml2_3 cl2_3)] 32 (0, 0)) :: ((b6, .cells #[(.int .i64 xc4_b6.Epoch), (.int .i64 xc4_b6.Owner), (.int .i64 xc4_b6.Next), (.slice ac4_0 mc4_0 cc4_0), (.slice ac4_1 mc4_1 cc4_1)] 27 (0, 0)) :: L)))))) := hO583
            have hK586 : Kept w492 _ _ w583 := Kept.to (e573.trans (e575.trans (e577.trans (e579.trans e583)))) (hO584.t.r.r.t.perm (pmbC pmb0)).t
            refine d_back hK586 ?_
            refine d1 (i := 12) (listed' := #[I_,I_,I_,I_,I_,I_,I_,I_,I_,I_,I_,I_,I_]) ?_
            refine sv (r_assign (v := .int _ _) rfl) ?_
            refine d_tail rfl ?_
            refine d_done (by kernel_rfl) ?_
            refine c_next ?_
            rw [← Option.some.inj h] at hr572
            obtain ⟨hO587, e587⟩ := hO584.permE (pmbC (pmbA (pmbA (pmbC (pmbC pmb0)))))
            obtain ⟨hO588, e588⟩ := hO587.permE (pmbC (pmbC (pmbA (pmbA (pmbC pmb0)))))
            obtain ⟨hO589, e589⟩ := hO588.permE (pmbC (pmbC (pmbC (pmbA (pmbA pmb0)))))
            obtain ⟨hO590, e590⟩ := hO589.permE (pmC (pmC (pmC (pmC (pmA pm0)))))
            obtain ⟨hO591, e591⟩ := hO590.permE (pmA (pmC (pmC (pmC (pmC pm0)))))
            exact ⟨_, rfl, y39.2, ({ Epoch := y39.1.Epoch, Owner := y39.1.Owner, Next := y39.1.Next, Roster := y39.1.Roster, Tickets := y39.1.Tickets } : T_batonref27_State), b8, a39_0, m39_0, c39_0, a39_1, m39_1, c39_1, hr572, rfl, rfl, rfl, rfl, rfl, rfl, rfl, rfl, hm39_0, hc39_0, (hR39_0.ext (e579.trans (e583.trans (e587.trans (e588.trans (e589.trans (e590.trans e591))))))), hm39_1, hc39_1, (hR39_1.ext (e579.trans (e583.trans (e587.trans (e588.trans (e589.trans (e590.trans e591))))))), hO591, (e573.trans (e575.trans (e577.trans (e579.trans (e583.trans (e587.trans (e588.trans (e589.trans (e590.trans e591)))))))))⟩
          refine s_alloc I32 hO575 ?_
          intro b8 w592 hz8 hl8 hO592 e592
          have hO593 : Own w592 ((b8, .cells #[(.int .i64 0), (.int .i64 0), (.int .i64 0), (.slice none 0 0), (.slice none 0 0)] 32 (0, 0)) :: (Sc4_0 ++ (Sc4_1 ++ ((b3, .cells #[(.int .i64 xl2_b3.Epoch), (.int .i64 xl2_b3.Owner), (.int .i64 xl2_b3.Next), (.slice al2_0 ml2_0 cl2_0), (.slice al2_1 ml2_1 cl2_1)] 27 (0, 0)) :: ((b4, .cells #[(.int .i64 xl2_b4.Epoch), (.int .i64 xl2_b4.Owner), (.int .i64 xl2_b4.Next), (.slice al2_2 ml2_2 cl2_2), (.slice al2_3 ml2_3 cl2_3)] 32 (0, 0)) :: ((b6, .cells #[(.int .i64 xc4_b6.Epoch), (.int .i64 xc4_b6.Owner), (.int .i64 xc4_b6.Next), (.slice ac4_0 mc4_0 cc4_0), (.slice ac4_1 mc4_1 cc4_1)] 27 (0, 0)) :: L)))))) := hO592
          have hK595 : Kept w492 _ _ w592 := Kept.to (e573.trans (e575.trans e592)) (hO593.t.r.r.t.perm (pmbC pmb0)).t
          refine d_back hK595 ?_
          refine d1 (i := 6) (listed' := #[I_,I_,I_,I_,I_,I_,I_,O_,O_,O_,I_,O_,O_]) ?_
          obtain ⟨y39, hy39, h⟩ := bindE h
          refine s_call cf10 rfl (c_batonref27_Do xl2_b4 y38 al2_2 ml2_2 cl2_2 al2_3 ml2_3 cl2_3 _ hy39 _ _ hml2_2 hcl2_2 (hRl2_2.ext (e573.trans (e575.trans e592))) hml2_3 hcl2_3 (hRl2_3.ext (e573.trans (e575.trans e592))) hO593) ?_
          rintro er39 w596 ⟨a39_0, m39_0, c39_0, a39_1, m39_1, c39_1, rfl, hm39_0, hc39_0, hR39_0, hm39_1, hc39_1, hR39_1, hO596, e596⟩
          refine ⟨_, rfl, ?_⟩
          have hK597 : Kept w492 _ _ w596 := Kept.to (e573.trans (e575.trans (e592.trans e596))) (hO596.t.r.r.t.perm (pmbC pmb0)).t
          refine d_back hK597 ?_
          refine dT (i := 7) (listed' := #[I_,I_,I_,I_,I_,I_,I_,I_,O_,O_,I_,O_,O_]) rfl hP574 hK597 (fun wS hS => (r_move (v := .tuple _) rfl)) ?_
          refine dT (i := 8) (listed' := #[I_,I_,I_,I_,I_,I_,I_,I_,I_,O_,I_,O_,O_]) rfl hP574 hK597 (fun wS hS => (r_extract rfl rfl)) ?_
          refine dT (i := 9) (listed' := #[I_,I_,I_,I_,I_,I_,I_,I_,I_,I_,I_,O_,O_]) rfl hP574 hK597 (fun wS hS => (r_extract rfl rfl)) ?_
          refine d1 (i := 11) (listed' := #[I_,I_,I_,I_,I_,I_,I_,I_,I_,I_,I_,I_,O_]) ?_
          refine s_storeN (vs := #[(.int .i64 y39.1.Epoch), (.int .i64 y39.1.Owner), (.int .i64 y39.1.Next), (.slice a39_0 m39_0 c39_0), (.slice a39_1 m39_1 c39_1)]) I32 rfl rfl rfl hO596 (i := 0) rfl (Nat.le_of_ble_eq_true rfl) (List.all_eq_true.1 rfl) ?_
          intro w598 hO598 e598
          have hO599 : Own w598 ((b8, .cells #[(.int .i64 y39.1.Epoch), (.int .i64 y39.1.Owner), (.int .i64 y39.1.Next), (.slice a39_0 m39_0 c39_0), (.slice a39_1 m39_1 c39_1)] 32 (0, 0)) :: (Sc4_0 ++ (Sc4_1 ++ ((b3, .cells #[(.int .i64 xl2_b3.Epoch), (.int .i64 xl2_b3.Owner), (.int .i64 xl2_b3.Next), (.slice al2_0 ml2_0 cl2_0), (.slice al2_1 ml2_1 cl2_1)] 27 (0, 0)) :: ((b4, .cells #[(.int .i64 xl2_b4.Epoch), (.int .i64 xl2_b4.Owner), (.int .i64 xl2_b4.Next), (.slice al2_2 ml2_2 cl2_2), (.slice al2_3 ml2_3 cl2_3)] 32 (0, 0)) :: ((b6, .cells #[(.int .i64 xc4_b6.Epoch), (.int .i64 xc4_b6.Owner), (.int .i64 xc4_b6.Next), (.slice ac4_0 mc4_0 cc4_0), (.slice ac4_1 mc4_1 cc4_1)] 27 (0, 0)) :: L)))))) := hO598
          have hK601 : Kept w492 _ _ w598 := Kept.to (e573.trans (e575.trans (e592.trans (e596.trans e598)))) (hO599.t.r.r.t.perm (pmbC pmb0)).t
          refine d_back hK601 ?_
          refine d1 (i := 12) (listed' := #[I_,I_,I_,I_,I_,I_,I_,I_,I_,I_,I_,I_,I_]) ?_
          refine sv (r_assign (v := .int _ _) rfl) ?_
          refine d_tail rfl ?_
          refine d_done (by kernel_rfl) ?_
          refine c_next ?_
          rw [← Option.some.inj h] at hr572
          obtain ⟨hO602, e602⟩ := hO599.permE (pmbC (pmbA (pmbA (pmbC (pmbC pmb0)))))
          obtain ⟨hO603, e603⟩ := hO602.permE (pmbC (pmbC (pmbA (pmbA (pmbC pmb0)))))
          obtain ⟨hO604, e604⟩ := hO603.permE (pmbC (pmbC (pmbC (pmbA (pmbA pmb0)))))
          obtain ⟨hO605, e605⟩ := hO604.permE (pmC (pmC (pmC (pmC (pmA pm0)))))
          obtain ⟨hO606, e606⟩ := hO605.permE (pmA (pmC (pmC (pmC (pmC pm0)))))
          exact ⟨_, rfl, y39.2, ({ Epoch := y39.1.Epoch, Owner := y39.1.Owner, Next := y39.1.Next, Roster := y39.1.Roster, Tickets := y39.1.Tickets } : T_batonref27_State), b8, a39_0, m39_0, c39_0, a39_1, m39_1, c39_1, hr572, rfl, rfl, rfl, rfl, rfl, rfl, rfl, rfl, hm39_0, hc39_0, (hR39_0.ext (e598.trans (e602.trans (e603.trans (e604.trans (e605.trans e606)))))), hm39_1, hc39_1, (hR39_1.ext (e598.trans (e602.trans (e603.trans (e604.trans (e605.trans e606)))))), hO606, (e573.trans (e575.trans (e592.trans (e596.trans (e598.trans (e602.trans (e603.trans (e604.trans (e605.trans e606)))))))))⟩
        refine s_alloc I32 hO573 ?_
        intro b8 w607 hz8 hl8 hO607 e607
        have hO608 : Own w607 ((b8, .cells #[(.int .i64 0), (.int .i64 0), (.int .i64 0), (.slice none 0 0), (.slice none 0 0)] 32 (0, 0)) :: (Sc4_0 ++ (Sc4_1 ++ ((b3, .cells #[(.int .i64 xl2_b3.Epoch), (.int .i64 xl2_b3.Owner), (.int .i64 xl2_b3.Next), (.slice al2_0 ml2_0 cl2_0), (.slice al2_1 ml2_1 cl2_1)] 27 (0, 0)) :: ((b4, .cells #[(.int .i64 xl2_b4.Epoch), (.int .i64 xl2_b4.Owner), (.int .i64 xl2_b4.Next), (.slice al2_2 ml2_2 cl2_2), (.slice al2_3 ml2_3 cl2_3)] 32 (0, 0)) :: ((b6, .cells #[(.int .i64 xc4_b6.Epoch), (.int .i64 xc4_b6.Owner), (.int .i64 xc4_b6.Next), (.slice ac4_0 mc4_0 cc4_0), (.slice ac4_1 mc4_1 cc4_1)] 27 (0, 0)) :: L)))))) := hO607
        have hK610 : Kept w492 _ _ w607 := Kept.to (e573.trans e607) (hO608.t.r.r.t.perm (pmbC pmb0)).t
        refine d_back hK610 ?_
        refine d1 (i := 5) (listed' := #[I_,I_,I_,I_,I_,I_,O_,O_,O_,O_,I_,O_,O_]) ?_
        obtain ⟨y38, hy38, h⟩ := bindE h
        refine s_call cf11 rfl (c_batonlaw27_RefOp y36 _ hy38 _ _ hO608) ?_
        rintro er38 w611 ⟨rfl, hO611, e611⟩
        refine ⟨_, rfl, ?_⟩
        have hK612 : Kept w492 _ _ w611 := Kept.to (e573.trans (e607.trans e611)) (hO611.t.r.r.t.perm (pmbC pmb0)).t
        refine d_back hK612 ?_
        refine d1 (i := 6) (listed' := #[I_,I_,I_,I_,I_,I_,I_,O_,O_,O_,I_,O_,O_]) ?_
        obtain ⟨y39, hy39, h⟩ := bindE h
        refine s_call cf10 rfl (c_batonref27_Do xl2_b4 y38 al2_2 ml2_2 cl2_2 al2_3 ml2_3 cl2_3 _ hy39 _ _ hml2_2 hcl2_2 (hRl2_2.ext (e573.trans (e607.trans e611))) hml2_3 hcl2_3 (hRl2_3.ext (e573.trans (e607.trans e611))) hO611) ?_
        rintro er39 w613 ⟨a39_0, m39_0, c39_0, a39_1, m39_1, c39_1, rfl, hm39_0, hc39_0, hR39_0, hm39_1, hc39_1, hR39_1, hO613, e613⟩
        refine ⟨_, rfl, ?_⟩
        have hK614 : Kept w492 _ _ w613 := Kept.to (e573.trans (e607.trans (e611.trans e613))) (hO613.t.r.r.t.perm (pmbC pmb0)).t
        refine d_back hK614 ?_
        refine dT (i := 7) (listed' := #[I_,I_,I_,I_,I_,I_,I_,I_,O_,O_,I_,O_,O_]) rfl hP574 hK614 (fun wS hS => (r_move (v := .tuple _) rfl)) ?_
        refine dT (i := 8) (listed' := #[I_,I_,I_,I_,I_,I_,I_,I_,I_,O_,I_,O_,O_]) rfl hP574 hK614 (fun wS hS => (r_extract rfl rfl)) ?_
        refine dT (i := 9) (listed' := #[I_,I_,I_,I_,I_,I_,I_,I_,I_,I_,I_,O_,O_]) rfl hP574 hK614 (fun wS hS => (r_extract rfl rfl)) ?_
        refine d1 (i := 11) (listed' := #[I_,I_,I_,I_,I_,I_,I_,I_,I_,I_,I_,I_,O_]) ?_
        refine s_storeN (vs := #[(.int .i64 y39.1.Epoch), (.int .i64 y39.1.Owner), (.int .i64 y39.1.Next), (.slice a39_0 m39_0 c39_0), (.slice a39_1 m39_1 c39_1)]) I32 rfl rfl rfl hO613 (i := 0) rfl (Nat.le_of_ble_eq_true rfl) (List.all_eq_true.1 rfl) ?_
        intro w615 hO615 e615
        have hO616 : Own w615 ((b8, .cells #[(.int .i64 y39.1.Epoch), (.int .i64 y39.1.Owner), (.int .i64 y39.1.Next), (.slice a39_0 m39_0 c39_0), (.slice a39_1 m39_1 c39_1)] 32 (0, 0)) :: (Sc4_0 ++ (Sc4_1 ++ ((b3, .cells #[(.int .i64 xl2_b3.Epoch), (.int .i64 xl2_b3.Owner), (.int .i64 xl2_b3.Next), (.slice al2_0 ml2_0 cl2_0), (.slice al2_1 ml2_1 cl2_1)] 27 (0, 0)) :: ((b4, .cells #[(.int .i64 xl2_b4.Epoch), (.int .i64 xl2_b4.Owner), (.int .i64 xl2_b4.Next), (.slice al2_2 ml2_2 cl2_2), (.slice al2_3 ml2_3 cl2_3)] 32 (0, 0)) :: ((b6, .cells #[(.int .i64 xc4_b6.Epoch), (.int .i64 xc4_b6.Owner), (.int .i64 xc4_b6.Next), (.slice ac4_0 mc4_0 cc4_0), (.slice ac4_1 mc4_1 cc4_1)] 27 (0, 0)) :: L)))))) := hO615
        have hK618 : Kept w492 _ _ w615 := Kept.to (e573.trans (e607.trans (e611.trans (e613.trans e615)))) (hO616.t.r.r.t.perm (pmbC pmb0)).t
        refine d_back hK618 ?_
        refine d1 (i := 12) (listed' := #[I_,I_,I_,I_,I_,I_,I_,I_,I_,I_,I_,I_,I_]) ?_
        refine sv (r_assign (v := .int _ _) rfl) ?_
        refine d_tail rfl ?_
        refine d_done (by kernel_rfl) ?_
        refine c_next ?_
        rw [← Option.some.inj h] at hr572
        obtain ⟨hO619, e619⟩ := hO616.permE (pmbC (pmbA (pmbA (pmbC (pmbC pmb0)))))
        obtain ⟨hO620, e620⟩ := hO619.permE (pmbC (pmbC (pmbA (pmbA (pmbC pmb0)))))
        obtain ⟨hO621, e621⟩ := hO620.permE (pmbC (pmbC (pmbC (pmbA (pmbA pmb0)))))
        obtain ⟨hO622, e622⟩ := hO621.permE (pmC (pmC (pmC (pmC (pmA pm0)))))
        obtain ⟨hO623, e623⟩ := hO622.permE (pmA (pmC (pmC (pmC (pmC pm0)))))
        exact ⟨_, rfl, y39.2, ({ Epoch := y39.1.Epoch, Owner := y39.1.Owner, Next := y39.1.Next, Roster := y39.1.Roster, Tickets := y39.1.Tickets } : T_batonref27_State), b8, a39_0, m39_0, c39_0, a39_1, m39_1, c39_1, hr572, rfl, rfl, rfl, rfl, rfl, rfl, rfl, rfl, hm39_0, hc39_0, (hR39_0.ext (e615.trans (e619.trans (e620.trans (e621.trans (e622.trans e623)))))), hm39_1, hc39_1, (hR39_1.ext (e615.trans (e619.trans (e620.trans (e621.trans (e622.trans e623)))))), hO623, (e573.trans (e607.trans (e611.trans (e613.trans (e615.trans (e619.trans (e620.trans (e621.trans (e622.trans e623)))))))))⟩
      intro gg572 w572 hI572
      clear h hr572
      obtain ⟨xc5_t9, xc5_b8, b8, ac5_0, mc5_0, cc5_0, ac5_1, mc5_1, cc5_1, h, hsc5_0, hsc5_3, hsc5_4, hsc5_5, hsc5_6, hsc5_7, hsc5_8, hsc5_9, hmc5_0, hcc5_0, hRc5_0, hmc5_1, hcc5_1, hRc5_1, hO572, e572⟩ := hI572
      replace h := hG_ hG572 h; clear hG572
      obtain ⟨qq572, rfl⟩ := fr8 hsc5_0 hsc5_3 hsc5_4 hsc5_5 hsc5_6 hsc5_7 hsc5_8 hsc5_9
      clear hsc5_0 hsc5_3 hsc5_4 hsc5_5 hsc5_6 hsc5_7 hsc5_8 hsc5_9
      refine c_seq ?_
      refine c_seq ?_
      have hR0p := (hR0p.ext e572)
      have hRl2_0 := (hRl2_0.ext e572)
      have hRl2_1 := (hRl2_1.ext e572)
      have hRl2_2 := (hRl2_2.ext e572)
      have hRl2_3 := (hRl2_3.ext e572)
      refine d_startL hO572 (hO572.r.r.perm (pmbC pmb0)).t 20 (by kernel_rfl) (pk_then (pk_then (pk_block (pk_then (pk_then (pk_block (pk_then pk_body))))))) ?_
      intro hP656 wd656 hK656 hO655 e655
      refine dT (i := 0) (listed' := #[I_,O_,O_,O_,O_,O_,O_,O_,O_,O_,O_,O_,O_,O_,O_,O_,O_,O_,O_,O_]) rfl hP656 hK656 (fun wS hS => (r_move (v := .int _ _) rfl)) ?_
      refine dT (i := 1) (listed' := #[I_,I_,O_,O_,O_,O_,O_,O_,O_,O_,O_,O_,O_,O_,O_,O_,O_,O_,O_,O_]) rfl hP656 hK656 (fun wS hS => (r_move (v := .int _ _) rfl)) ?_
      refine dt_neq (i := 2) (listed' := #[I_,I_,I_,O_,O_,O_,O_,O_,O_,O_,O_,O_,O_,O_,O_,O_,O_,O_,O_,O_]) (by rfl) (by kernel_rfl) (by rfl) hP656.u rfl hK656 rfl rfl (fun h44 => ?_) (fun h44 => ?_)
      · replace h := iT h44 h
        refine dT (i := 3) (listed' := #[I_,I_,I_,I_,O_,O_,O_,O_,O_,O_,O_,O_,O_,O_,O_,O_,O_,O_,O_,O_]) rfl hP656 hK656 (fun wS hS => (r_move (v := .bool true) rfl)) ?_
        refine dS (i := 4) (listed' := #[I_,I_,I_,I_,I_,O_,O_,O_,O_,O_,O_,O_,O_,O_,O_,O_,O_,O_,O_,O_]) rfl 45 hP656 rfl hK656 ?_
        refine dS (i := 5) (listed' := #[I_,I_,I_,I_,I_,I_,O_,O_,O_,O_,O_,O_,O_,O_,O_,O_,O_,O_,O_,O_]) rfl 45 hP656 rfl hK656 ?_
        refine dS (i := 6) (listed' := #[I_,I_,I_,I_,I_,I_,I_,O_,O_,O_,O_,O_,O_,O_,O_,O_,O_,O_,O_,O_]) rfl 45 hP656 rfl hK656 ?_
        refine dS (i := 7) (listed' := #[I_,I_,I_,I_,I_,I_,I_,I_,O_,O_,O_,O_,O_,O_,O_,O_,O_,O_,O_,O_]) rfl 45 hP656 rfl hK656 ?_
        refine dS (i := 8) (listed' := #[I_,I_,I_,I_,I_,I_,I_,I_,I_,O_,O_,O_,O_,O_,O_,O_,O_,O_,O_,O_]) rfl 45 hP656 rfl hK656 ?_
        refine dT (i := 9) (listed' := #[I_,I_,I_,I_,I_,I_,I_,I_,I_,I_,O_,O_,O_,O_,O_,O_,O_,O_,O_,O_]) rfl hP656 hK656 (fun wS hS => (r_pickT (v := .bool true) rfl rfl)) ?_
        refine dT (i := 10) (listed' := #[I_,I_,I_,I_,I_,I_,I_,I_,I_,I_,I_,O_,O_,O_,O_,O_,O_,O_,O_,O_]) rfl hP656 hK656 (fun wS hS => (r_move (v := .bool true) rfl)) ?_
        refine dS (i := 11) (listed' := #[I_,I_,I_,I_,I_,I_,I_,I_,I_,I_,I_,I_,O_,O_,O_,O_,O_,O_,O_,O_]) rfl 52 hP656 rfl hK656 ?_
        refine dS (i := 12) (listed' := #[I_,I_,I_,I_,I_,I_,I_,I_,I_,I_,I_,I_,I_,O_,O_,O_,O_,O_,O_,O_]) rfl 52 hP656 rfl hK656 ?_
        refine dS (i := 13) (listed' := #[I_,I_,I_,I_,I_,I_,I_,I_,I_,I_,I_,I_,I_,I_,O_,O_,O_,O_,O_,O_]) rfl 52 hP656 rfl hK656 ?_
        refine dU (i := 14) (listed' := #[I_,I_,I_,I_,I_,I_,I_,I_,I_,I_,I_,I_,I_,I_,I_,O_,O_,O_,O_,O_]) rfl 55 hP656 hK656 ?_
        refine dU (i := 15) (listed' := #[I_,I_,I_,I_,I_,I_,I_,I_,I_,I_,I_,I_,I_,I_,I_,I_,O_,O_,O_,O_]) rfl 55 hP656 hK656 ?_
        refine dU (i := 16) (listed' := #[I_,I_,I_,I_,I_,I_,I_,I_,I_,I_,I_,I_,I_,I_,I_,I_,I_,O_,O_,O_]) rfl 55 hP656 hK656 ?_
        refine dU (i := 17) (listed' := #[I_,I_,I_,I_,I_,I_,I_,I_,I_,I_,I_,I_,I_,I_,I_,I_,I_,I_,O_,O_]) rfl 55 hP656 hK656 ?_
        refine dS (i := 18) (listed' := #[I_,I_,I_,I_,I_,I_,I_,I_,I_,I_,I_,I_,I_,I_,I_,I_,I_,I_,I_,O_]) rfl 52 hP656 rfl hK656 ?_
        refine dT (i := 19) (listed' := #[I_,I_,I_,I_,I_,I_,I_,I_,I_,I_,I_,I_,I_,I_,I_,I_,I_,I_,I_,I_]) rfl hP656 hK656 (fun wS hS => (r_pickT (v := .bool true) rfl rfl)) ?_
        refine d_done (by kernel_rfl) ?_
        refine c_next ?_
        refine c_condT rfl ?_
        refine c_seq ?_
        refine c_reg ?_
        refine sv (r_assign (v := .bool false) rfl) ?_
        refine s_nil ?_
        refine c_next ?_
        refine c_ret ?_
        refine r_then ?_
        refine r_block ?_
        refine r_then ?_
        refine r_then ?_
        refine r_block ?_
        refine r_then ?_
        replace h := crossE h hyl454
        refine e_1 (v := .bool false) Try.results3 rfl ?_
        have hR657 := (hSc4_0.drop hO655).2.2
        obtain ⟨hO657, e657⟩ := hO655.dropS
        have hR658 := (hSc4_1.drop hO657).2.2
        obtain ⟨hO658, e658⟩ := hO657.dropS
        obtain ⟨hO659, e659⟩ := hO658.drop1
        obtain ⟨hO660, e660⟩ := hO659.drop1
        obtain ⟨hO661, e661⟩ := hO660.drop1
        obtain ⟨hO662, e662⟩ := hO661.drop1
        rw [← Option.some.inj h]
        exact ⟨rfl, hO662, (e4.trans (e6.trans (e13.trans (e14.trans (e17.trans (e20.trans (e23.trans (e454.trans (e460.trans (e492.trans (e572.trans (e655.trans (e657.trans (e658.trans (e659.trans (e660.trans (e661.trans e662)))))))))))))))))⟩
      replace h := iF (Classical.not_not.2 h44) h
      refine dT (i := 3) (listed' := #[I_,I_,I_,I_,O_,O_,O_,O_,O_,O_,O_,O_,O_,O_,O_,O_,O_,O_,O_,O_]) rfl hP656 hK656 (fun wS hS => (r_move (v := .bool false) rfl)) ?_
      refine dG (i := 4) (listed' := #[I_,I_,I_,I_,I_,O_,O_,O_,O_,O_,O_,O_,O_,O_,O_,O_,O_,O_,O_,O_]) rfl 45 hP656 rfl hK656 (fun wS hS => (rl_all Try.underlying27 rfl I27 rfl (hS.own.get (i := 1) rfl) rfl rfl)) ?_
      refine dG (i := 6) (listed' := #[I_,I_,I_,I_,I_,O_,I_,O_,O_,O_,O_,O_,O_,O_,O_,O_,O_,O_,O_,O_]) rfl 45 hP656 rfl hK656 (fun wS hS => (rl_all Try.underlying32 rfl I32 rfl (hS.own.get (i := 2) rfl) rfl rfl)) ?_
      refine d1 (i := 5) (listed' := #[I_,I_,I_,I_,I_,I_,I_,O_,O_,O_,O_,O_,O_,O_,O_,O_,O_,O_,O_,O_]) ?_
      refine g_do 45 (by rfl) rfl ?_
      have hR663 := (hSc4_0.drop hO655).2.2
      obtain ⟨hO663, e663⟩ := hO655.dropS
      have hR664 := (hSc4_1.drop hO663).2.2
      obtain ⟨hO664, e664⟩ := hO663.dropS
      obtain ⟨y47, hy47, h⟩ := bindE h
      refine s_call cf13 rfl (c_batonlaw27_Ref xc4_b6 ac4_0 mc4_0 cc4_0 ac4_1 mc4_1 cc4_1 _ hy47 _ _ hmc4_0 hSc4_0.le.1 (hR663.ext e664) hmc4_1 hSc4_1.le.1 hR664 hO664) ?_
      rintro er47 w665 ⟨a47_0, m47_0, c47_0, S47_0, a47_1, m47_1, c47_1, S47_1, rfl, hm47_0, hS47_0, hm47_1, hS47_1, hO665, e665⟩
      refine ⟨_, rfl, ?_⟩
      have hK666 : Kept w572 _ _ w665 := Kept.to (e655.trans (e663.trans (e664.trans e665))) (hO665.r.r.perm (pmbC pmb0)).t
      refine d_back hK666 ?_
      refine d1 (i := 7) (listed' := #[I_,I_,I_,I_,I_,I_,I_,I_,O_,O_,O_,O_,O_,O_,O_,O_,O_,O_,O_,O_]) ?_
      refine g_do 45 (by rfl) rfl ?_
      have hR667 := (hS47_0.drop hO665).2.2
      obtain ⟨hO667, e667⟩ := hO665.dropS
      have hR668 := (hS47_1.drop hO667).2.2
      obtain ⟨hO668, e668⟩ := hO667.dropS
      obtain ⟨y49, hy49, h⟩ := bindE h
      refine s_call cf12 rfl (c_batonref27_Same y47 xc5_b8 a47_0 m47_0 c47_0 a47_1 m47_1 c47_1 ac5_0 mc5_0 cc5_0 ac5_1 mc5_1 cc5_1 _ hy49 _ _ hm47_0 hS47_0.le.1 (hR667.ext e668) hm47_1 hS47_1.le.1 hR668 hmc5_0 hcc5_0 (hRc5_0.ext (e655.trans (e663.trans (e664.trans (e665.trans (e667.trans e668)))))) hmc5_1 hcc5_1 (hRc5_1.ext (e655.trans (e663.trans (e664.trans (e665.trans (e667.trans e668)))))) hO668) ?_
      rintro er49 w669 ⟨rfl, hO669, e669⟩
      obtain ⟨hO670, e670⟩ := Own.lend hO667 hO669 e669
      obtain ⟨hO671, e671⟩ := Own.lend hO665 hO670 e670
      refine ⟨_, rfl, ?_⟩
      have hK672 : Kept w572 _ _ w669 := Kept.to (e655.trans (e663.trans (e664.trans (e665.trans e671)))) (hO671.r.r.perm (pmbC pmb0)).t
      refine d_back hK672 ?_
      refine dG (i := 8) (listed' := #[I_,I_,I_,I_,I_,I_,I_,I_,I_,O_,O_,O_,O_,O_,O_,O_,O_,O_,O_,O_]) rfl 45 hP656 rfl hK672 (fun wS hS => (r_not (b := y49) rfl)) ?_
      refine dT (i := 9) (listed' := #[I_,I_,I_,I_,I_,I_,I_,I_,I_,I_,O_,O_,O_,O_,O_,O_,O_,O_,O_,O_]) rfl hP656 hK672 (fun wS hS => (r_pickF (v := .bool _) rfl rfl)) ?_
      refine dT (i := 10) (listed' := #[I_,I_,I_,I_,I_,I_,I_,I_,I_,I_,I_,O_,O_,O_,O_,O_,O_,O_,O_,O_]) rfl hP656 hK672 (fun wS hS => (r_move (v := .bool _) rfl)) ?_
      rcases Bool.eq_false_or_eq_true (y49) with hb673 | hb673
      · replace h := iT hb673 h
        refine dG (i := 11) (listed' := #[I_,I_,I_,I_,I_,I_,I_,I_,I_,I_,I_,I_,O_,O_,O_,O_,O_,O_,O_,O_]) rfl 52 hP656 (congrArg Value.bool (nnt hb673)) hK672 (fun wS hS => (r_move (v := .int _ _) rfl)) ?_
        refine dt_neqG (i := 12) (listed' := #[I_,I_,I_,I_,I_,I_,I_,I_,I_,I_,I_,I_,I_,O_,O_,O_,O_,O_,O_,O_]) (by rfl) (by kernel_rfl) (by rfl) hP656.u 52 (by rfl) (congrArg Value.bool (nnt hb673)) hK672 rfl rfl (fun h54 => ?_) (fun h54 => ?_)
        · replace h := iT h54 h
          refine dG (i := 13) (listed' := #[I_,I_,I_,I_,I_,I_,I_,I_,I_,I_,I_,I_,I_,I_,O_,O_,O_,O_,O_,O_]) rfl 52 hP656 (congrArg Value.bool (nnt hb673)) hK672 (fun wS hS => (r_move (v := .bool true) rfl)) ?_
          refine dG (i := 14) (listed' := #[I_,I_,I_,I_,I_,I_,I_,I_,I_,I_,I_,I_,I_,I_,I_,O_,O_,O_,O_,O_]) rfl 55 hP656 rfl hK672 (fun wS hS => (rl_all Try.underlying27 rfl I27 rfl (hS.own.get (i := 1) rfl) rfl rfl)) ?_
          refine dG (i := 15) (listed' := #[I_,I_,I_,I_,I_,I_,I_,I_,I_,I_,I_,I_,I_,I_,I_,I_,O_,O_,O_,O_]) rfl 55 hP656 rfl hK672 (fun wS hS => (rl_all Try.underlying27 rfl I27 rfl (hS.own.get (i := 0) rfl) rfl rfl)) ?_
          refine d1 (i := 16) (listed' := #[I_,I_,I_,I_,I_,I_,I_,I_,I_,I_,I_,I_,I_,I_,I_,I_,I_,O_,O_,O_]) ?_
          refine g_do 55 (by rfl) rfl ?_
          obtain ⟨y58, hy58, h⟩ := bindE h
          refine s_call cf14 rfl (c_claim_Same xc4_b6 xl2_b3 ac4_0 mc4_0 cc4_0 ac4_1 mc4_1 cc4_1 al2_0 ml2_0 cl2_0 al2_1 ml2_1 cl2_1 _ hy58 _ _ hmc4_0 hSc4_0.le.1 (hR663.ext (e664.trans (e665.trans e671))) hmc4_1 hSc4_1.le.1 (hR664.ext (e665.trans e671)) hml2_0 hcl2_0 (hRl2_0.ext (e655.trans (e663.trans (e664.trans (e665.trans e671))))) hml2_1 hcl2_1 (hRl2_1.ext (e655.trans (e663.trans (e664.trans (e665.trans e671))))) hO671) ?_
          rintro er58 w674 ⟨rfl, hO674, e674⟩
          refine ⟨_, rfl, ?_⟩
          have hK675 : Kept w572 _ _ w674 := Kept.to (e655.trans (e663.trans (e664.trans (e665.trans (e671.trans e674))))) (hO674.r.r.perm (pmbC pmb0)).t
          refine d_back hK675 ?_
          refine dG (i := 17) (listed' := #[I_,I_,I_,I_,I_,I_,I_,I_,I_,I_,I_,I_,I_,I_,I_,I_,I_,I_,O_,O_]) rfl 55 hP656 rfl hK675 (fun wS hS => (r_not (b := y58) rfl)) ?_
          refine dG (i := 18) (listed' := #[I_,I_,I_,I_,I_,I_,I_,I_,I_,I_,I_,I_,I_,I_,I_,I_,I_,I_,I_,O_]) rfl 52 hP656 (congrArg Value.bool (nnt hb673)) hK675 (fun wS hS => (r_pickT (v := .bool _) rfl rfl)) ?_
          refine dT (i := 19) (listed' := #[I_,I_,I_,I_,I_,I_,I_,I_,I_,I_,I_,I_,I_,I_,I_,I_,I_,I_,I_,I_]) rfl hP656 hK675 (fun wS hS => (r_pickF (v := .bool _) (by exact (congrArg Value.bool (nnt hb673))) rfl)) ?_
          refine d_done (by kernel_rfl) ?_
          refine c_next ?_
          rcases Bool.eq_false_or_eq_true (y58) with hb676 | hb676
          · replace h := iT hb676 h
            refine c_condF (congrArg Value.bool (nnt hb676)) ?_
            refine c_skip ?_
            refine c_next ?_
            have hR0p := (hR0p.ext (e655.trans (e663.trans (e664.trans (e665.trans (e671.trans e674))))))
            have hRl2_0 := (hRl2_0.ext (e655.trans (e663.trans (e664.trans (e665.trans (e671.trans e674))))))
            have hRl2_1 := (hRl2_1.ext (e655.trans (e663.trans (e664.trans (e665.trans (e671.trans e674))))))
            have hRl2_2 := (hRl2_2.ext (e655.trans (e663.trans (e664.trans (e665.trans (e671.trans e674))))))
            have hRl2_3 := (hRl2_3.ext (e655.trans (e663.trans (e664.trans (e665.trans (e671.trans e674))))))
            have hRc5_0 := (hRc5_0.ext (e655.trans (e663.trans (e664.trans (e665.trans (e671.trans e674))))))
            have hRc5_1 := (hRc5_1.ext (e655.trans (e663.trans (e664.trans (e665.trans (e671.trans e674))))))
            have hR663 := (hR663.ext (e664.trans (e665.trans (e671.trans e674))))
            have hR664 := (hR664.ext (e665.trans (e671.trans e674)))
            refine d_startL hO674 hO674.r.r.t.t 3 (by kernel_rfl) (pk_block (pk_then (pk_then (pk_block (pk_then pk_body))))) ?_
            intro hP678 wd678 hK678 hO677 e677
            refine dT (i := 0) (listed' := #[I_,O_,O_,O_]) rfl hP678 hK678 (fun wS hS => (rl_all Try.underlying27 rfl I27 rfl (hS.own.get (i := 0) rfl) rfl rfl)) ?_
            refine dT (i := 1) (listed' := #[I_,I_,O_,O_]) rfl hP678 hK678 (fun wS hS => (rl_all Try.underlying32 rfl I32 rfl (hS.own.get (i := 1) rfl) rfl rfl)) ?_
            refine d1 (i := 2) (listed' := #[I_,I_,I_,O_]) ?_
            obtain ⟨hO680, e680⟩ := hO677.permE (pmbA (pmbA pmb0))
            refine s_storeN (vs := #[(.int .i64 xc4_b6.Epoch), (.int .i64 xc4_b6.Owner), (.int .i64 xc4_b6.Next), (.slice ac4_0 mc4_0 cc4_0), (.slice ac4_1 mc4_1 cc4_1)]) I27 rfl rfl rfl hO680 (i := 0) rfl (Nat.le_of_ble_eq_true rfl) (List.all_eq_true.1 rfl) ?_
            intro w679 hO679 e679
            have hO681 : Own w679 ((b3, .cells #[(.int .i64 xc4_b6.Epoch), (.int .i64 xc4_b6.Owner), (.int .i64 xc4_b6.Next), (.slice ac4_0 mc4_0 cc4_0), (.slice ac4_1 mc4_1 cc4_1)] 27 (0, 0)) :: (S47_0 ++ (S47_1 ++ ((b4, .cells #[(.int .i64 xl2_b4.Epoch), (.int .i64 xl2_b4.Owner), (.int .i64 xl2_b4.Next), (.slice al2_2 ml2_2 cl2_2), (.slice al2_3 ml2_3 cl2_3)] 32 (0, 0)) :: ((b6, .cells #[(.int .i64 xc4_b6.Epoch), (.int .i64 xc4_b6.Owner), (.int .i64 xc4_b6.Next), (.slice ac4_0 mc4_0 cc4_0), (.slice ac4_1 mc4_1 cc4_1)] 27 (0, 0)) :: ((b8, .cells #[(.int .i64 xc5_b8.Epoch), (.int .i64 xc5_b8.Owner), (.int .i64 xc5_b8.Next), (.slice ac5_0 mc5_0 cc5_0), (.slice ac5_1 mc5_1 cc5_1)] 32 (0, 0)) :: L)))))) := hO679
            have hK683 : Kept w674 _ _ w679 := Kept.to (e677.trans (e680.trans e679)) hO681.t.r.r.t
            refine d_back hK683 ?_
            refine d1 (i := 3) (listed' := #[I_,I_,I_,I_]) ?_
            obtain ⟨hO685, e685⟩ := hO681.permE (pmbC (pmbA (pmbA pmb0)))
            refine s_storeN (vs := #[(.int .i64 xc5_b8.Epoch), (.int .i64 xc5_b8.Owner), (.int .i64 xc5_b8.Next), (.slice ac5_0 mc5_0 cc5_0), (.slice ac5_1 mc5_1 cc5_1)]) I32 rfl rfl rfl hO685 (i := 0) rfl (Nat.le_of_ble_eq_true rfl) (List.all_eq_true.1 rfl) ?_
            intro w684 hO684 e684
            have hO686 : Own w684 ((b4, .cells #[(.int .i64 xc5_b8.Epoch), (.int .i64 xc5_b8.Owner), (.int .i64 xc5_b8.Next), (.slice ac5_0 mc5_0 cc5_0), (.slice ac5_1 mc5_1 cc5_1)] 32 (0, 0)) :: ((b3, .cells #[(.int .i64 xc4_b6.Epoch), (.int .i64 xc4_b6.Owner), (.int .i64 xc4_b6.Next), (.slice ac4_0 mc4_0 cc4_0), (.slice ac4_1 mc4_1 cc4_1)] 27 (0, 0)) :: (S47_0 ++ (S47_1 ++ ((b6, .cells #[(.int .i64 xc4_b6.Epoch), (.int .i64 xc4_b6.Owner), (.int .i64 xc4_b6.Next), (.slice ac4_0 mc4_0 cc4_0), (.slice ac4_1 mc4_1 cc4_1)] 27 (0, 0)) :: ((b8, .cells #[(.int .i64 xc5_b8.Epoch), (.int .i64 xc5_b8.Owner), (.int .i64 xc5_b8.Next), (.slice ac5_0 mc5_0 cc5_0), (.slice ac5_1 mc5_1 cc5_1)] 32 (0, 0)) :: L)))))) := hO684
            refine d_tail rfl ?_
            refine d_done (by kernel_rfl) ?_
            refine x_norm ?_
            refine c_next ?_
            refine c_reg ?_
            refine sv (r_move (v := .int _ _) rfl) ?_
            refine sv (r_addI (a := xl2_t5) (b := 1) rfl rfl) ?_
            refine sv (r_assign (v := .int _ _) rfl) ?_
            refine s_nil ?_
            refine l_end (m' := kl454) (Nat.lt_succ_self _) ?_
            rw [← Option.some.inj h] at hyl454
            obtain ⟨hO688, e688⟩ := hO686.permE (pmC (pmC pm0))
            have hR689 := (hS47_0.drop hO688).2.2
            obtain ⟨hO689, e689⟩ := hO688.dropS
            obtain ⟨hO690, e690⟩ := hO689.permE (pmC (pmC pm0))
            have hR691 := (hS47_1.drop hO690).2.2
            obtain ⟨hO691, e691⟩ := hO690.dropS
            obtain ⟨hO692, e692⟩ := hO691.permE (pmbC (pmbC pmb0))
            obtain ⟨hO693, e693⟩ := hO692.drop1
            obtain ⟨hO694, e694⟩ := hO693.permE (pmbC (pmbC pmb0))
            obtain ⟨hO695, e695⟩ := hO694.drop1
            obtain ⟨hO696, e696⟩ := hO695.permE (pmbC pmb0)
            exact ⟨(w64 (xl2_t5 + 1)), xc4_b6, xc5_b8, ac4_0, mc4_0, cc4_0, ac4_1, mc4_1, cc4_1, ac5_0, mc5_0, cc5_0, ac5_1, mc5_1, cc5_1, hyl454, rfl, rfl, rfl, rfl, hmc4_0, hSc4_0.le.1, (hR663.ext (e677.trans (e680.trans (e679.trans (e685.trans (e684.trans (e688.trans (e689.trans (e690.trans (e691.trans (e692.trans (e693.trans (e694.trans (e695.trans e696)))))))))))))), hmc4_1, hSc4_1.le.1, (hR664.ext (e677.trans (e680.trans (e679.trans (e685.trans (e684.trans (e688.trans (e689.trans (e690.trans (e691.trans (e692.trans (e693.trans (e694.trans (e695.trans e696)))))))))))))), hmc5_0, hcc5_0, (hRc5_0.ext (e677.trans (e680.trans (e679.trans (e685.trans (e684.trans (e688.trans (e689.trans (e690.trans (e691.trans (e692.trans (e693.trans (e694.trans (e695.trans e696)))))))))))))), hmc5_1, hcc5_1, (hRc5_1.ext (e677.trans (e680.trans (e679.trans (e685.trans (e684.trans (e688.trans (e689.trans (e690.trans (e691.trans (e692.trans (e693.trans (e694.trans (e695.trans e696)))))))))))))), hO696, (e454.trans (e460.trans (e492.trans (e572.trans (e655.trans (e663.trans (e664.trans (e665.trans (e671.trans (e674.trans (e677.trans (e680.trans (e679.trans (e685.trans (e684.trans (e688.trans (e689.trans (e690.trans (e691.trans (e692.trans (e693.trans (e694.trans (e695.trans e696)))))))))))))))))))))))⟩
          replace h := iF (nt hb676) h
          refine c_condT (congrArg Value.bool (nnf hb676)) ?_
          refine c_seq ?_
          refine c_reg ?_
          refine sv (r_assign (v := .bool false) rfl) ?_
          refine s_nil ?_
          refine c_next ?_
          refine c_ret ?_
          refine r_then ?_
          refine r_block ?_
          refine r_then ?_
          refine r_then ?_
          refine r_block ?_
          refine r_then ?_
          replace h := crossE h hyl454
          refine e_1 (v := .bool false) Try.results3 rfl ?_
          have hR697 := (hS47_0.drop hO674).2.2
          obtain ⟨hO697, e697⟩ := hO674.dropS
          have hR698 := (hS47_1.drop hO697).2.2
          obtain ⟨hO698, e698⟩ := hO697.dropS
          obtain ⟨hO699, e699⟩ := hO698.drop1
          obtain ⟨hO700, e700⟩ := hO699.drop1
          obtain ⟨hO701, e701⟩ := hO700.drop1
          obtain ⟨hO702, e702⟩ := hO701.drop1
          rw [← Option.some.inj h]
          exact ⟨rfl, hO702, (e4.trans (e6.trans (e13.trans (e14.trans (e17.trans (e20.trans (e23.trans (e454.trans (e460.trans (e492.trans (e572.trans (e655.trans (e663.trans (e664.trans (e665.trans (e671.trans (e674.trans (e697.trans (e698.trans (e699.trans (e700.trans (e701.trans e702))))))))))))))))))))))⟩
        replace h := iF (Classical.not_not.2 h54) h
        refine dG (i := 13) (listed' := #[I_,I_,I_,I_,I_,I_,I_,I_,I_,I_,I_,I_,I_,I_,O_,O_,O_,O_,O_,O_]) rfl 52 hP656 (congrArg Value.bool (nnt hb673)) hK672 (fun wS hS => (r_move (v := .bool false) rfl)) ?_
        refine dS (i := 14) (listed' := #[I_,I_,I_,I_,I_,I_,I_,I_,I_,I_,I_,I_,I_,I_,I_,O_,O_,O_,O_,O_]) rfl 55 hP656 rfl hK672 ?_
        refine dS (i := 15) (listed' := #[I_,I_,I_,I_,I_,I_,I_,I_,I_,I_,I_,I_,I_,I_,I_,I_,O_,O_,O_,O_]) rfl 55 hP656 rfl hK672 ?_
        refine dS (i := 16) (listed' := #[I_,I_,I_,I_,I_,I_,I_,I_,I_,I_,I_,I_,I_,I_,I_,I_,I_,O_,O_,O_]) rfl 55 hP656 rfl hK672 ?_
        refine dS (i := 17) (listed' := #[I_,I_,I_,I_,I_,I_,I_,I_,I_,I_,I_,I_,I_,I_,I_,I_,I_,I_,O_,O_]) rfl 55 hP656 rfl hK672 ?_
        refine dG (i := 18) (listed' := #[I_,I_,I_,I_,I_,I_,I_,I_,I_,I_,I_,I_,I_,I_,I_,I_,I_,I_,I_,O_]) rfl 52 hP656 (congrArg Value.bool (nnt hb673)) hK672 (fun wS hS => (r_pickF (v := .bool false) rfl rfl)) ?_
        refine dT (i := 19) (listed' := #[I_,I_,I_,I_,I_,I_,I_,I_,I_,I_,I_,I_,I_,I_,I_,I_,I_,I_,I_,I_]) rfl hP656 hK672 (fun wS hS => (r_pickF (v := .bool false) (by exact (congrArg Value.bool (nnt hb673))) rfl)) ?_
        refine d_done (by kernel_rfl) ?_
        refine c_next ?_
        refine c_condF rfl ?_
        refine c_skip ?_
        refine c_next ?_
        have hR0p := (hR0p.ext (e655.trans (e663.trans (e664.trans (e665.trans e671)))))
        have hRl2_0 := (hRl2_0.ext (e655.trans (e663.trans (e664.trans (e665.trans e671)))))
        have hRl2_1 := (hRl2_1.ext (e655.trans (e663.trans (e664.trans (e665.trans e671)))))
        have hRl2_2 := (hRl2_2.ext (e655.trans (e663.trans (e664.trans (e665.trans e671)))))
        have hRl2_3 := (hRl2_3.ext (e655.trans (e663.trans (e664.trans (e665.trans e671)))))
        have hRc5_0 := (hRc5_0.ext (e655.trans (e663.trans (e664.trans (e665.trans e671)))))
        have hRc5_1 := (hRc5_1.ext (e655.trans (e663.trans (e664.trans (e665.trans e671)))))
        have hR663 := (hR663.ext (e664.trans (e665.trans e671)))
        have hR664 := (hR664.ext (e665.trans e671))
        refine d_startL hO671 hO671.r.r.t.t 3 (by kernel_rfl) (pk_block (pk_then (pk_then (pk_block (pk_then pk_body))))) ?_
        intro hP704 wd704 hK704 hO703 e703
        refine dT (i := 0) (listed' := #[I_,O_,O_,O_]) rfl hP704 hK704 (fun wS hS => (rl_all Try.underlying27 rfl I27 rfl (hS.own.get (i := 0) rfl) rfl rfl)) ?_
        refine dT (i := 1) (listed' := #[I_,I_,O_,O_]) rfl hP704 hK704 (fun wS hS => (rl_all Try.underlying32 rfl I32 rfl (hS.own.get (i := 1) rfl) rfl rfl)) ?_
        refine d1 (i := 2) (listed' := #[I_,I_,I_,O_]) ?_
        obtain ⟨hO706, e706⟩ := hO703.permE (pmbA (pmbA pmb0))
        refine s_storeN (vs := #[(.int .i64 xc4_b6.Epoch), (.int .i64 xc4_b6.Owner), (.int .i64 xc4_b6.Next), (.slice ac4_0 mc4_0 cc4_0), (.slice ac4_1 mc4_1 cc4_1)]) I27 rfl rfl rfl hO706 (i := 0) rfl (Nat.le_of_ble_eq_true rfl) (List.all_eq_true.1 rfl) ?_
        intro w705 hO705 e705
        have hO707 : Own w705 ((b3, .cells #[(.int .i64 xc4_b6.Epoch), (.int .i64 xc4_b6.Owner), (.int .i64 xc4_b6.Next), (.slice ac4_0 mc4_0 cc4_0), (.slice ac4_1 mc4_1 cc4_1)] 27 (0, 0)) :: (S47_0 ++ (S47_1 ++ ((b4, .cells #[(.int .i64 xl2_b4.Epoch), (.int .i64 xl2_b4.Owner), (.int .i64 xl2_b4.Next), (.slice al2_2 ml2_2 cl2_2), (.slice al2_3 ml2_3 cl2_3)] 32 (0, 0)) :: ((b6, .cells #[(.int .i64 xc4_b6.Epoch), (.int .i64 xc4_b6.Owner), (.int .i64 xc4_b6.Next), (.slice ac4_0 mc4_0 cc4_0), (.slice ac4_1 mc4_1 cc4_1)] 27 (0, 0)) :: ((b8, .cells #[(.int .i64 xc5_b8.Epoch), (.int .i64 xc5_b8.Owner), (.int .i64 xc5_b8.Next), (.slice ac5_0 mc5_0 cc5_0), (.slice ac5_1 mc5_1 cc5_1)] 32 (0, 0)) :: L)))))) := hO705
        have hK709 : Kept w669 _ _ w705 := Kept.to (e703.trans (e706.trans e705)) hO707.t.r.r.t
        refine d_back hK709 ?_
        refine d1 (i := 3) (listed' := #[I_,I_,I_,I_]) ?_
        obtain ⟨hO711, e711⟩ := hO707.permE (pmbC (pmbA (pmbA pmb0)))
        refine s_storeN (vs := #[(.int .i64 xc5_b8.Epoch), (.int .i64 xc5_b8.Owner), (.int .i64 xc5_b8.Next), (.slice ac5_0 mc5_0 cc5_0), (.slice ac5_1 mc5_1 cc5_1)]) I32 rfl rfl rfl hO711 (i := 0) rfl (Nat.le_of_ble_eq_true rfl) (List.all_eq_true.1 rfl) ?_
        intro w710 hO710 e710
        have hO712 : Own w710 ((b4, .cells #[(.int .i64 xc5_b8.Epoch), (.int .i64 xc5_b8.Owner), (.int .i64 xc5_b8.Next), (.slice ac5_0 mc5_0 cc5_0), (.slice ac5_1 mc5_1 cc5_1)] 32 (0, 0)) :: ((b3, .cells #[(.int .i64 xc4_b6.Epoch), (.int .i64 xc4_b6.Owner), (.int .i64 xc4_b6.Next), (.slice ac4_0 mc4_0 cc4_0), (.slice ac4_1 mc4_1 cc4_1)] 27 (0, 0)) :: (S47_0 ++ (S47_1 ++ ((b6, .cells #[(.int .i64 xc4_b6.Epoch), (.int .i64 xc4_b6.Owner), (.int .i64 xc4_b6.Next), (.slice ac4_0 mc4_0 cc4_0), (.slice ac4_1 mc4_1 cc4_1)] 27 (0, 0)) :: ((b8, .cells #[(.int .i64 xc5_b8.Epoch), (.int .i64 xc5_b8.Owner), (.int .i64 xc5_b8.Next), (.slice ac5_0 mc5_0 cc5_0), (.slice ac5_1 mc5_1 cc5_1)] 32 (0, 0)) :: L)))))) := hO710
        refine d_tail rfl ?_
        refine d_done (by kernel_rfl) ?_
        refine x_norm ?_
        refine c_next ?_
        refine c_reg ?_
        refine sv (r_move (v := .int _ _) rfl) ?_
        refine sv (r_addI (a := xl2_t5) (b := 1) rfl rfl) ?_
        refine sv (r_assign (v := .int _ _) rfl) ?_
        refine s_nil ?_
        refine l_end (m' := kl454) (Nat.lt_succ_self _) ?_
        rw [← Option.some.inj h] at hyl454
        obtain ⟨hO714, e714⟩ := hO712.permE (pmC (pmC pm0))
        have hR715 := (hS47_0.drop hO714).2.2
        obtain ⟨hO715, e715⟩ := hO714.dropS
        obtain ⟨hO716, e716⟩ := hO715.permE (pmC (pmC pm0))
        have hR717 := (hS47_1.drop hO716).2.2
        obtain ⟨hO717, e717⟩ := hO716.dropS
        obtain ⟨hO718, e718⟩ := hO717.permE (pmbC (pmbC pmb0))
        obtain ⟨hO719, e719⟩ := hO718.drop1
        obtain ⟨hO720, e720⟩ := hO719.permE (pmbC (pmbC pmb0))
        obtain ⟨hO721, e721⟩ := hO720.drop1
        obtain ⟨hO722, e722⟩ := hO721.permE (pmbC pmb0)
        exact ⟨(w64 (xl2_t5 + 1)), xc4_b6, xc5_b8, ac4_0, mc4_0, cc4_0, ac4_1, mc4_1, cc4_1, ac5_0, mc5_0, cc5_0, ac5_1, mc5_1, cc5_1, hyl454, rfl, rfl, rfl, rfl, hmc4_0, hSc4_0.le.1, (hR663.ext (e703.trans (e706.trans (e705.trans (e711.trans (e710.trans (e714.trans (e715.trans (e716.trans (e717.trans (e718.trans (e719.trans (e720.trans (e721.trans e722)))))))))))))), hmc4_1, hSc4_1.le.1, (hR664.ext (e703.trans (e706.trans (e705.trans (e711.trans (e710.trans (e714.trans (e715.trans (e716.trans (e717.trans (e718.trans (e719.trans (e720.trans (e721.trans e722)))))))))))))), hmc5_0, hcc5_0, (hRc5_0.ext (e703.trans (e706.trans (e705.trans (e711.trans (e710.trans (e714.trans (e715.trans (e716.trans (e717.trans (e718.trans (e719.trans (e720.trans (e721.trans e722)))))))))))))), hmc5_1, hcc5_1, (hRc5_1.ext (e703.trans (e706.trans (e705.trans (e711.trans (e710.trans (e714.trans (e715.trans (e716.trans (e717.trans (e718.trans (e719.trans (e720.trans (e721.trans e722)))))))))))))), hO722, (e454.trans (e460.trans (e492.trans (e572.trans (e655.trans (e663.trans (e664.trans (e665.trans (e671.trans (e703.trans (e706.trans (e705.trans (e711.trans (e710.trans (e714.trans (e715.trans (e716.trans (e717.trans (e718.trans (e719.trans (e720.trans (e721.trans e722))))))))))))))))))))))⟩
      replace h := iF (nt hb673) h
      refine dS (i := 11) (listed' := #[I_,I_,I_,I_,I_,I_,I_,I_,I_,I_,I_,I_,O_,O_,O_,O_,O_,O_,O_,O_]) rfl 52 hP656 (congrArg Value.bool (nnf hb673)) hK672 ?_
      refine dS (i := 12) (listed' := #[I_,I_,I_,I_,I_,I_,I_,I_,I_,I_,I_,I_,I_,O_,O_,O_,O_,O_,O_,O_]) rfl 52 hP656 (congrArg Value.bool (nnf hb673)) hK672 ?_
      refine dS (i := 13) (listed' := #[I_,I_,I_,I_,I_,I_,I_,I_,I_,I_,I_,I_,I_,I_,O_,O_,O_,O_,O_,O_]) rfl 52 hP656 (congrArg Value.bool (nnf hb673)) hK672 ?_
      refine dU (i := 14) (listed' := #[I_,I_,I_,I_,I_,I_,I_,I_,I_,I_,I_,I_,I_,I_,I_,O_,O_,O_,O_,O_]) rfl 55 hP656 hK672 ?_
      refine dU (i := 15) (listed' := #[I_,I_,I_,I_,I_,I_,I_,I_,I_,I_,I_,I_,I_,I_,I_,I_,O_,O_,O_,O_]) rfl 55 hP656 hK672 ?_
      refine dU (i := 16) (listed' := #[I_,I_,I_,I_,I_,I_,I_,I_,I_,I_,I_,I_,I_,I_,I_,I_,I_,O_,O_,O_]) rfl 55 hP656 hK672 ?_
      refine dU (i := 17) (listed' := #[I_,I_,I_,I_,I_,I_,I_,I_,I_,I_,I_,I_,I_,I_,I_,I_,I_,I_,O_,O_]) rfl 55 hP656 hK672 ?_
      refine dS (i := 18) (listed' := #[I_,I_,I_,I_,I_,I_,I_,I_,I_,I_,I_,I_,I_,I_,I_,I_,I_,I_,I_,O_]) rfl 52 hP656 (congrArg Value.bool (nnf hb673)) hK672 ?_
      refine dT (i := 19) (listed' := #[I_,I_,I_,I_,I_,I_,I_,I_,I_,I_,I_,I_,I_,I_,I_,I_,I_,I_,I_,I_]) rfl hP656 hK672 (fun wS hS => (r_pickT (v := .bool true) (by exact (congrArg Value.bool (nnf hb673))) rfl)) ?_
      refine d_done (by kernel_rfl) ?_
      refine c_next ?_
      refine c_condT rfl ?_
      refine c_seq ?_
      refine c_reg ?_
      refine sv (r_assign (v := .bool false) rfl) ?_
      refine s_nil ?_
      refine c_next ?_
      refine c_ret ?_
      refine r_then ?_
      refine r_block ?_
      refine r_then ?_
      refine r_then ?_
      refine r_block ?_
      refine r_then ?_
      replace h := crossE h hyl454
      refine e_1 (v := .bool false) Try.results3 rfl ?_
      have hR723 := (hS47_0.drop hO671).2.2
      obtain ⟨hO723, e723⟩ := hO671.dropS
      have hR724 := (hS47_1.drop hO723).2.2
      obtain ⟨hO724, e724⟩ := hO723.dropS
      obtain ⟨hO725, e725⟩ := hO724.drop1
      obtain ⟨hO726, e726⟩ := hO725.drop1
      obtain ⟨hO727, e727⟩ := hO726.drop1
      obtain ⟨hO728, e728⟩ := hO727.drop1
      rw [← Option.some.inj h]
      exact ⟨rfl, hO728, (e4.trans (e6.trans (e13.trans (e14.trans (e17.trans (e20.trans (e23.trans (e454.trans (e460.trans (e492.trans (e572.trans (e655.trans (e663.trans (e664.trans (e665.trans (e671.trans (e723.trans (e724.trans (e725.trans (e726.trans (e727.trans e728)))))))))))))))))))))⟩
    replace h := iF (nt hb461) h
    refine c_condF (congrArg Value.bool hb461) ?_
    refine c_exit ?_
    refine x_then ?_
    refine x_then ?_
    refine x_same ?_
    replace h := crossE h hyl454
    refine c_next ?_
    refine c_seq ?_
    refine c_reg ?_
    refine sv (r_assign (v := .bool true) rfl) ?_
    refine s_nil ?_
    refine c_next ?_
    refine c_ret ?_
    refine e_1 (v := .bool true) Try.results3 rfl ?_
    obtain ⟨hO729, e729⟩ := hO460.drop1
    obtain ⟨hO730, e730⟩ := hO729.drop1
    rw [← Option.some.inj h]
    exact ⟨rfl, hO730, (e4.trans (e6.trans (e13.trans (e14.trans (e17.trans (e20.trans (e23.trans (e454.trans (e460.trans (e729.trans e730))))))))))⟩
  replace h := iF (nt hb5) h
  refine c_condT (congrArg Value.bool (nnf hb5)) ?_
  refine c_seq ?_
  refine c_reg ?_
  refine sv (r_assign (v := .bool false) rfl) ?_
  refine s_nil ?_
  refine c_next ?_
  refine c_ret ?_
  refine r_then ?_
  refine e_1 (v := .bool false) Try.results3 rfl ?_
  rw [← Option.some.inj h]
  exact ⟨rfl, hO4, e4⟩
end Go.Proofs.Ytbigpfenlmfhgaa

