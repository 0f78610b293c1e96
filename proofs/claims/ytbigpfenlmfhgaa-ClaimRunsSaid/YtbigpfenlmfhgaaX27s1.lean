/- A part of the proof that the row of the law holds of the program as translated: lemmas and contracts of its functions. -/
import Derived.Test.YtbigpfenlmfhgaaX27s0
import Derived.Test.YtbigpfenlmfhgaaProg
import Derived.Test.YtbigpfenlmfhgaaAvI
import Derived.Test.YtbigpfenlmfhgaaX27p
set_option linter.unusedVariables false
set_option linter.unusedSimpArgs false
set_option maxRecDepth 10000
namespace Go.Proofs.Ytbigpfenlmfhgaa
open Go.GV Go.AV Go.RowKit
attribute [local irreducible] wpList
theorem c_batonlaw27_awake    (r : Bool) (h : F_batonlaw27_awake = some r) (w : World) (L : Hp)  (hO : Own w L) :
    Calls Try.prog 7 #[] w fun en w' => en = .returned (.bool r) ∧ Own w' L ∧ Ext w L w' L := by
  unfold F_batonlaw27_awake at h
  refine enter (n := 34) [] Try.func7 rfl rfl (Nat.le_of_ble_eq_true rfl) ?_
  refine c_seq ?_
  refine c_reg ?_
  refine sv (r_assign (v := .bool false) rfl) ?_
  refine s_nil ?_
  refine c_next ?_
  refine c_seq ?_
  refine c_reg ?_
  obtain ⟨y5, hy5, h⟩ := bindE h
  refine s_call cf8 rfl (c_claim_New _ hy5 _ _ hO) ?_
  rintro er5 w7 ⟨a5_0, m5_0, c5_0, S5_0, a5_1, m5_1, c5_1, S5_1, rfl, hm5_0, hS5_0, hm5_1, hS5_1, hO7, e7⟩
  refine ⟨_, rfl, ?_⟩
  refine sv (r_build (vs := [(0, (.int .i64 1)), (1, (.int .i64 1))]) (cells := #[(.int .i64 1), (.int .i64 1), (.int .i64 0), (.int .i64 0), (.int .i64 0), (.int .i64 0), (.int .i64 0)]) I37 pl37 rfl (by kernel_rfl)) ?_
  have hR8 := (hS5_0.drop hO7).2.2
  obtain ⟨hO8, e8⟩ := hO7.dropS
  have hR9 := (hS5_1.drop hO8).2.2
  obtain ⟨hO9, e9⟩ := hO8.dropS
  obtain ⟨y7, hy7, h⟩ := bindE h
  refine s_call cf9 rfl (c_claim_Do y5 ({ Kind := 1, Device := 1, Request := 0, Ticket := 0, For := 0, Until := 0, Now := 0 } : T_claim_Op) a5_0 m5_0 c5_0 a5_1 m5_1 c5_1 _ hy7 _ _ hm5_0 hS5_0.le.1 (hR8.ext e9) hm5_1 hS5_1.le.1 hR9 hO9) ?_
  rintro er7 w10 ⟨a7_0, m7_0, c7_0, S7_0, a7_1, m7_1, c7_1, S7_1, rfl, hm7_0, hS7_0, hm7_1, hS7_1, hO10, e10⟩
  refine ⟨_, rfl, ?_⟩
  refine sv (r_move (v := .tuple _) rfl) ?_
  refine sv (r_extract rfl rfl) ?_
  refine sv (r_extract rfl rfl) ?_
  refine s_alloc I27 hO10 ?_
  intro b1 w11 hz1 hl1 hO11 e11
  have hO12 : Own w11 ((b1, .cells #[(.int .i64 0), (.int .i64 0), (.int .i64 0), (.slice none 0 0), (.slice none 0 0)] 27 (0, 0)) :: (S7_0 ++ (S7_1 ++ L))) := hO11
  refine s_storeN (vs := #[(.int .i64 y7.1.Epoch), (.int .i64 y7.1.Owner), (.int .i64 y7.1.Next), (.slice a7_0 m7_0 c7_0), (.slice a7_1 m7_1 c7_1)]) I27 rfl rfl rfl hO12 (i := 0) rfl (Nat.le_of_ble_eq_true rfl) (List.all_eq_true.1 rfl) ?_
  intro w14 hO14 e14
  have hO15 : Own w14 ((b1, .cells #[(.int .i64 y7.1.Epoch), (.int .i64 y7.1.Owner), (.int .i64 y7.1.Next), (.slice a7_0 m7_0 c7_0), (.slice a7_1 m7_1 c7_1)] 27 (0, 0)) :: (S7_0 ++ (S7_1 ++ L))) := hO14
  refine sv (r_assign (v := .int _ _) rfl) ?_
  refine s_nil ?_
  refine c_next ?_
  refine c_seq ?_
  refine c_reg ?_
  refine s_loadAll Try.underlying27 rfl I27 rfl (hO15.get (i := 0) rfl) rfl rfl ?_
  refine sv (r_build (vs := [(0, (.int .i64 5)), (1, (.int .i64 1)), (2, (.int .i64 1))]) (cells := #[(.int .i64 5), (.int .i64 1), (.int .i64 1), (.int .i64 0), (.int .i64 0), (.int .i64 0), (.int .i64 0)]) I37 pl37 rfl (by kernel_rfl)) ?_
  obtain ⟨hO24, e24⟩ := hO15.permE (pmC pm0)
  have hR25 := (hS7_0.drop hO24).2.2
  obtain ⟨hO25, e25⟩ := hO24.dropS
  obtain ⟨hO26, e26⟩ := hO25.permE (pmC pm0)
  have hR27 := (hS7_1.drop hO26).2.2
  obtain ⟨hO27, e27⟩ := hO26.dropS
  obtain ⟨y13, hy13, h⟩ := bindE h
  refine s_call cf9 rfl (c_claim_Do ({ Epoch := y7.1.Epoch, Owner := y7.1.Owner, Next := y7.1.Next, Roster := y7.1.Roster, Tickets := y7.1.Tickets } : T_claim_State) ({ Kind := 5, Device := 1, Request := 1, Ticket := 0, For := 0, Until := 0, Now := 0 } : T_claim_Op) a7_0 m7_0 c7_0 a7_1 m7_1 c7_1 _ hy13 _ _ hm7_0 hS7_0.le.1 (hR25.ext (e26.trans e27)) hm7_1 hS7_1.le.1 hR27 hO27) ?_
  rintro er13 w28 ⟨a13_0, m13_0, c13_0, S13_0, a13_1, m13_1, c13_1, S13_1, rfl, hm13_0, hS13_0, hm13_1, hS13_1, hO28, e28⟩
  refine ⟨_, rfl, ?_⟩
  refine sv (r_move (v := .tuple _) rfl) ?_
  refine sv (r_extract rfl rfl) ?_
  refine sv (r_extract rfl rfl) ?_
  obtain ⟨hO30, e30⟩ := hO28.permE (pmbA (pmbA pmb0))
  refine s_storeN (vs := #[(.int .i64 y13.1.Epoch), (.int .i64 y13.1.Owner), (.int .i64 y13.1.Next), (.slice a13_0 m13_0 c13_0), (.slice a13_1 m13_1 c13_1)]) I27 rfl rfl rfl hO30 (i := 0) rfl (Nat.le_of_ble_eq_true rfl) (List.all_eq_true.1 rfl) ?_
  intro w29 hO29 e29
  have hO31 : Own w29 ((b1, .cells #[(.int .i64 y13.1.Epoch), (.int .i64 y13.1.Owner), (.int .i64 y13.1.Next), (.slice a13_0 m13_0 c13_0), (.slice a13_1 m13_1 c13_1)] 27 (0, 0)) :: (S13_0 ++ (S13_1 ++ L))) := hO29
  refine sv (r_assign (v := .int _ _) rfl) ?_
  refine s_nil ?_
  refine c_next ?_
  refine c_seq ?_
  refine c_reg ?_
  refine sv (r_move (v := .int _ _) rfl) ?_
  refine c_eql rfl rfl (fun h17 => ?_) (fun h17 => ?_)
  · replace h := iT h17 h
    refine sv (r_move (v := .bool true) rfl) ?_
    refine g_do 18 (by rfl) rfl ?_
    refine sv (r_move (v := .int _ _) rfl) ?_
    refine g_do 18 (by rfl) rfl ?_
    refine c_eql rfl rfl (fun h20 => ?_) (fun h20 => ?_)
    · replace h := iT h20 h
      refine sv (r_pickT (v := .bool true) rfl rfl) ?_
      refine sv (r_move (v := .bool true) rfl) ?_
      refine g_do 22 (by rfl) rfl ?_
      refine sv (r_fieldAddr Try.underlying27 rfl I3 (by decide) rfl) ?_
      refine g_do 22 (by rfl) rfl ?_
      refine s_load1 (v := .int _ _) Try.underlying3 rfl rfl (cellB (hO31.get (i := 0) rfl) rfl rfl) ?_
      refine g_do 22 (by rfl) rfl ?_
      refine c_eql rfl rfl (fun h25 => ?_) (fun h25 => ?_)
      · replace h := iT h25 h
        refine sv (r_pickT (v := .bool true) rfl rfl) ?_
        refine sv (r_move (v := .bool true) rfl) ?_
        refine g_do 27 (by rfl) rfl ?_
        refine sv (r_fieldAddr Try.underlying27 rfl I3 (by decide) rfl) ?_
        refine g_do 27 (by rfl) rfl ?_
        refine s_load1 (v := .int _ _) Try.underlying3 rfl rfl (cellB (hO31.get (i := 0) rfl) rfl rfl) ?_
        refine g_do 27 (by rfl) rfl ?_
        refine c_eql rfl rfl (fun h30 => ?_) (fun h30 => ?_)
        · replace h := iT h30 h
          refine sv (r_pickT (v := .bool true) rfl rfl) ?_
          refine sv (r_move (v := .bool true) rfl) ?_
          refine sv (r_pickT (v := .bool true) rfl rfl) ?_
          refine sv (r_assign (v := .bool true) rfl) ?_
          refine s_nil ?_
          refine c_next ?_
          refine c_ret ?_
          refine e_1 (v := .bool true) Try.results7 rfl ?_
          obtain ⟨hO33, e33⟩ := hO31.drop1
          have hR34 := (hS13_0.drop hO33).2.2
          obtain ⟨hO34, e34⟩ := hO33.dropS
          have hR35 := (hS13_1.drop hO34).2.2
          obtain ⟨hO35, e35⟩ := hO34.dropS
          rw [← Option.some.inj h]
          exact ⟨rfl, hO35, (e7.trans (e8.trans (e9.trans (e10.trans (e11.trans (e14.trans (e24.trans (e25.trans (e26.trans (e27.trans (e28.trans (e30.trans (e29.trans (e33.trans (e34.trans e35)))))))))))))))⟩
        replace h := iF h30 h
        refine sv (r_pickT (v := .bool false) rfl rfl) ?_
        refine sv (r_move (v := .bool false) rfl) ?_
        refine sv (r_pickF (v := .bool false) rfl rfl) ?_
        refine sv (r_assign (v := .bool false) rfl) ?_
        refine s_nil ?_
        refine c_next ?_
        refine c_ret ?_
        refine e_1 (v := .bool false) Try.results7 rfl ?_
        obtain ⟨hO36, e36⟩ := hO31.drop1
        have hR37 := (hS13_0.drop hO36).2.2
        obtain ⟨hO37, e37⟩ := hO36.dropS
        have hR38 := (hS13_1.drop hO37).2.2
        obtain ⟨hO38, e38⟩ := hO37.dropS
        rw [← Option.some.inj h]
        exact ⟨rfl, hO38, (e7.trans (e8.trans (e9.trans (e10.trans (e11.trans (e14.trans (e24.trans (e25.trans (e26.trans (e27.trans (e28.trans (e30.trans (e29.trans (e36.trans (e37.trans e38)))))))))))))))⟩
      replace h := iF h25 h
      refine sv (r_pickT (v := .bool false) rfl rfl) ?_
      refine sv (r_move (v := .bool false) rfl) ?_
      refine g_skip 27 (by rfl) rfl (by rfl) ?_
      refine g_skip 27 (by rfl) rfl (by rfl) ?_
      refine g_skip 27 (by rfl) rfl (by rfl) ?_
      refine sv (r_pickF (v := .bool false) rfl rfl) ?_
      refine sv (r_move (v := .bool false) rfl) ?_
      refine sv (r_pickF (v := .bool false) rfl rfl) ?_
      refine sv (r_assign (v := .bool false) rfl) ?_
      refine s_nil ?_
      refine c_next ?_
      refine c_ret ?_
      refine e_1 (v := .bool false) Try.results7 rfl ?_
      obtain ⟨hO39, e39⟩ := hO31.drop1
      have hR40 := (hS13_0.drop hO39).2.2
      obtain ⟨hO40, e40⟩ := hO39.dropS
      have hR41 := (hS13_1.drop hO40).2.2
      obtain ⟨hO41, e41⟩ := hO40.dropS
      rw [← Option.some.inj h]
      exact ⟨rfl, hO41, (e7.trans (e8.trans (e9.trans (e10.trans (e11.trans (e14.trans (e24.trans (e25.trans (e26.trans (e27.trans (e28.trans (e30.trans (e29.trans (e39.trans (e40.trans e41)))))))))))))))⟩
    replace h := iF h20 h
    refine sv (r_pickT (v := .bool false) rfl rfl) ?_
    refine sv (r_move (v := .bool false) rfl) ?_
    refine g_skip 22 (by rfl) rfl (by rfl) ?_
    refine g_skip 22 (by rfl) rfl (by rfl) ?_
    refine g_skip 22 (by rfl) rfl (by rfl) ?_
    refine sv (r_pickF (v := .bool false) rfl rfl) ?_
    refine sv (r_move (v := .bool false) rfl) ?_
    refine g_skip 27 (by rfl) rfl (by rfl) ?_
    refine g_skip 27 (by rfl) rfl (by rfl) ?_
    refine g_skip 27 (by rfl) rfl (by rfl) ?_
    refine sv (r_pickF (v := .bool false) rfl rfl) ?_
    refine sv (r_move (v := .bool false) rfl) ?_
    refine sv (r_pickF (v := .bool false) rfl rfl) ?_
    refine sv (r_assign (v := .bool false) rfl) ?_
    refine s_nil ?_
    refine c_next ?_
    refine c_ret ?_
    refine e_1 (v := .bool false) Try.results7 rfl ?_
    obtain ⟨hO42, e42⟩ := hO31.drop1
    have hR43 := (hS13_0.drop hO42).2.2
    obtain ⟨hO43, e43⟩ := hO42.dropS
    have hR44 := (hS13_1.drop hO43).2.2
    obtain ⟨hO44, e44⟩ := hO43.dropS
    rw [← Option.some.inj h]
    exact ⟨rfl, hO44, (e7.trans (e8.trans (e9.trans (e10.trans (e11.trans (e14.trans (e24.trans (e25.trans (e26.trans (e27.trans (e28.trans (e30.trans (e29.trans (e42.trans (e43.trans e44)))))))))))))))⟩
  replace h := iF h17 h
  refine sv (r_move (v := .bool false) rfl) ?_
  refine g_skip 18 (by rfl) rfl (by rfl) ?_
  refine g_skip 18 (by rfl) rfl (by rfl) ?_
  refine sv (r_pickF (v := .bool false) rfl rfl) ?_
  refine sv (r_move (v := .bool false) rfl) ?_
  refine g_skip 22 (by rfl) rfl (by rfl) ?_
  refine g_skip 22 (by rfl) rfl (by rfl) ?_
  refine g_skip 22 (by rfl) rfl (by rfl) ?_
  refine sv (r_pickF (v := .bool false) rfl rfl) ?_
  refine sv (r_move (v := .bool false) rfl) ?_
  refine g_skip 27 (by rfl) rfl (by rfl) ?_
  refine g_skip 27 (by rfl) rfl (by rfl) ?_
  refine g_skip 27 (by rfl) rfl (by rfl) ?_
  refine sv (r_pickF (v := .bool false) rfl rfl) ?_
  refine sv (r_move (v := .bool false) rfl) ?_
  refine sv (r_pickF (v := .bool false) rfl rfl) ?_
  refine sv (r_assign (v := .bool false) rfl) ?_
  refine s_nil ?_
  refine c_next ?_
  refine c_ret ?_
  refine e_1 (v := .bool false) Try.results7 rfl ?_
  obtain ⟨hO45, e45⟩ := hO31.drop1
  have hR46 := (hS13_0.drop hO45).2.2
  obtain ⟨hO46, e46⟩ := hO45.dropS
  have hR47 := (hS13_1.drop hO46).2.2
  obtain ⟨hO47, e47⟩ := hO46.dropS
  rw [← Option.some.inj h]
  exact ⟨rfl, hO47, (e7.trans (e8.trans (e9.trans (e10.trans (e11.trans (e14.trans (e24.trans (e25.trans (e26.trans (e27.trans (e28.trans (e30.trans (e29.trans (e45.trans (e46.trans e47)))))))))))))))⟩
theorem c_batonlaw27_RefOp (x0 : T_claim_Op)   (r : T_batonref27_Op) (h : F_batonlaw27_RefOp x0 = some r) (w : World) (L : Hp)  (hO : Own w L) :
    Calls Try.prog 11 #[(.agg #[(.int .i64 x0.Kind), (.int .i64 x0.Device), (.int .i64 x0.Request), (.int .i64 x0.Ticket), (.int .i64 x0.For), (.int .i64 x0.Until), (.int .i64 x0.Now)])] w fun en w' => en = .returned (.agg #[(.int .i64 r.Kind), (.int .i64 r.Device), (.int .i64 r.Request), (.int .i64 r.Ticket), (.int .i64 r.For), (.int .i64 r.Until), (.int .i64 r.Now)]) ∧ Own w' L ∧ Ext w L w' L := by
  unfold F_batonlaw27_RefOp at h
  refine enter (n := 18) [(.agg #[(.int .i64 x0.Kind), (.int .i64 x0.Device), (.int .i64 x0.Request), (.int .i64 x0.Ticket), (.int .i64 x0.For), (.int .i64 x0.Until), (.int .i64 x0.Now)])] Try.func11 rfl rfl (Nat.le_of_ble_eq_true rfl) ?_
  refine c_seq ?_
  refine c_reg ?_
  refine s_box (v := (.agg #[(.int .i64 x0.Kind), (.int .i64 x0.Device), (.int .i64 x0.Request), (.int .i64 x0.Ticket), (.int .i64 x0.For), (.int .i64 x0.Until), (.int .i64 x0.Now)])) rfl hO ?_
  intro b1 w3 hz1 hl1 hO3 e3
  have hO4 : Own w3 ((b1, .cells #[(.int .i64 x0.Kind), (.int .i64 x0.Device), (.int .i64 x0.Request), (.int .i64 x0.Ticket), (.int .i64 x0.For), (.int .i64 x0.Until), (.int .i64 x0.Now)] 37 (0, 0)) :: L) := hO3
  refine s_alloc I40 hO4 ?_
  intro b2 w6 hz2 hl2 hO6 e6
  have hO7 : Own w6 ((b2, .cells #[(.int .i64 0), (.int .i64 0), (.int .i64 0), (.int .i64 0), (.int .i64 0), (.int .i64 0), (.int .i64 0)] 40 (0, 0)) :: ((b1, .cells #[(.int .i64 x0.Kind), (.int .i64 x0.Device), (.int .i64 x0.Request), (.int .i64 x0.Ticket), (.int .i64 x0.For), (.int .i64 x0.Until), (.int .i64 x0.Now)] 37 (0, 0)) :: L)) := hO6
  refine s_nil ?_
  refine c_next ?_
  refine c_seq ?_
  refine c_reg ?_
  refine sv (r_fieldAddr Try.underlying37 rfl I3 (by decide) rfl) ?_
  refine s_load1 (v := .int _ _) Try.underlying3 rfl rfl (cellB (hO7.get (i := 1) rfl) rfl rfl) ?_
  refine sv (r_fieldAddr Try.underlying37 rfl I3 (by decide) rfl) ?_
  refine s_load1 (v := .int _ _) Try.underlying3 rfl rfl (cellB (hO7.get (i := 1) rfl) rfl rfl) ?_
  refine sv (r_fieldAddr Try.underlying37 rfl I3 (by decide) rfl) ?_
  refine s_load1 (v := .int _ _) Try.underlying3 rfl rfl (cellB (hO7.get (i := 1) rfl) rfl rfl) ?_
  refine sv (r_fieldAddr Try.underlying37 rfl I3 (by decide) rfl) ?_
  refine s_load1 (v := .int _ _) Try.underlying3 rfl rfl (cellB (hO7.get (i := 1) rfl) rfl rfl) ?_
  refine sv (r_fieldAddr Try.underlying37 rfl I3 (by decide) rfl) ?_
  refine s_load1 (v := .int _ _) Try.underlying3 rfl rfl (cellB (hO7.get (i := 1) rfl) rfl rfl) ?_
  refine sv (r_fieldAddr Try.underlying37 rfl I3 (by decide) rfl) ?_
  refine s_load1 (v := .int _ _) Try.underlying3 rfl rfl (cellB (hO7.get (i := 1) rfl) rfl rfl) ?_
  refine sv (r_fieldAddr Try.underlying37 rfl I3 (by decide) rfl) ?_
  refine s_load1 (v := .int _ _) Try.underlying3 rfl rfl (cellB (hO7.get (i := 1) rfl) rfl rfl) ?_
  refine sv (r_build (vs := [(0, (.int .i64 x0.Kind)), (1, (.int .i64 x0.Device)), (2, (.int .i64 x0.Request)), (3, (.int .i64 x0.Ticket)), (4, (.int .i64 x0.For)), (5, (.int .i64 x0.Until)), (6, (.int .i64 x0.Now))]) (cells := #[(.int .i64 x0.Kind), (.int .i64 x0.Device), (.int .i64 x0.Request), (.int .i64 x0.Ticket), (.int .i64 x0.For), (.int .i64 x0.Until), (.int .i64 x0.Now)]) I40 pl40 rfl (by kernel_rfl)) ?_
  refine s_storeN (vs := #[(.int .i64 x0.Kind), (.int .i64 x0.Device), (.int .i64 x0.Request), (.int .i64 x0.Ticket), (.int .i64 x0.For), (.int .i64 x0.Until), (.int .i64 x0.Now)]) I40 rfl rfl rfl hO7 (i := 0) rfl (Nat.le_of_ble_eq_true rfl) (List.all_eq_true.1 rfl) ?_
  intro w9 hO9 e9
  have hO10 : Own w9 ((b2, .cells #[(.int .i64 x0.Kind), (.int .i64 x0.Device), (.int .i64 x0.Request), (.int .i64 x0.Ticket), (.int .i64 x0.For), (.int .i64 x0.Until), (.int .i64 x0.Now)] 40 (0, 0)) :: ((b1, .cells #[(.int .i64 x0.Kind), (.int .i64 x0.Device), (.int .i64 x0.Request), (.int .i64 x0.Ticket), (.int .i64 x0.For), (.int .i64 x0.Until), (.int .i64 x0.Now)] 37 (0, 0)) :: L)) := hO9
  refine s_nil ?_
  refine c_next ?_
  refine c_ret ?_
  refine e_r1 Try.results11 (rv_agg Try.underlying40 rfl I40 rfl (hO10.get (i := 0) rfl) rfl rfl) ?_
  obtain ⟨hO12, e12⟩ := hO10.drop1
  obtain ⟨hO13, e13⟩ := hO12.drop1
  rw [← Option.some.inj h]
  exact ⟨rfl, hO13, (e3.trans (e6.trans (e9.trans (e12.trans e13))))⟩
theorem c_batonref25_Find (x0 : (List T_batonref25_Device)) (x1 : Int) (aP0 : Option Addr) (mP0 cP0 : Nat)  (r : Int) (h : F_batonref25_Find x0 x1 = some r) (w : World) (L : Hp) (hm0p : x0.length = mP0) (hc0p : mP0 ≤ cP0) (hR0p : Rd w L aP0 (fl e_batonref25_Device x0)) (hO : Own w L) :
    Calls Try.prog 49 #[(.slice aP0 mP0 cP0), (.int .i64 x1)] w fun en w' => en = .returned (.int .i64 r) ∧ Own w' L ∧ Ext w L w' L := by
  unfold F_batonref25_Find at h
  refine enter (n := 20) [(.slice aP0 mP0 cP0), (.int .i64 x1)] Try.func49 rfl rfl (Nat.le_of_ble_eq_true rfl) ?_
  refine c_seq ?_
  refine c_reg ?_
  refine sv (r_assign (v := .int _ _) rfl) ?_
  refine s_nil ?_
  refine c_next ?_
  refine c_seq ?_
  refine c_seq ?_
  refine c_reg ?_
  refine sv (r_assign (v := .int _ _) rfl) ?_
  refine s_nil ?_
  refine c_next ?_
  refine c_block ?_
  obtain ⟨kl1, hkl1⟩ := loop_iff.1 h
  clear h
  refine c_loopL hO (fun Lc f0 m g wl => ∃ (xl1_t5 : Int), (iterK (batonref25_Find_l1 x0 x1) m xl1_t5 = some r) ∧ g 0 = (.slice aP0 mP0 cP0) ∧ g 1 = (.int .i64 x1) ∧ g 5 = (.int .i64 xl1_t5) ∧ Own wl L ∧ Ext w Lc wl L) kl1 ?_ ?_
  · skip
    exact ⟨0, hkl1, rfl, rfl, rfl, hO, (Ext.refl _ _)⟩
  clear hkl1
  intro mm1 gg1 w1 hI1
  obtain ⟨xl1_t5, hkl1, hsl1_0, hsl1_1, hsl1_5, hO1, e1⟩ := hI1
  obtain ⟨kl1, yl1, rfl, h, hyl1⟩ := iterE hkl1
  clear hkl1
  obtain ⟨qq1, rfl⟩ := fr3 hsl1_0 hsl1_1 hsl1_5
  clear hsl1_0 hsl1_1 hsl1_5
  refine c_seq ?_
  refine c_seq ?_
  refine c_reg ?_
  refine sv (r_move (v := .int _ _) rfl) ?_
  refine sv (r_move (v := .slice _ _ _) rfl) ?_
  refine sv (r_lenL (xs := x0) Try.underlying29 rfl hm0p) ?_
  refine c_lss rfl rfl (fun h9 => ?_) (fun h9 => ?_)
  · replace h := iT h9 h
    refine s_nil ?_
    refine c_next ?_
    refine c_condT rfl ?_
    refine c_skip ?_
    refine c_next ?_
    refine c_seq ?_
    refine c_block ?_
    refine c_seq ?_
    refine c_reg ?_
    refine sv (r_move (v := .slice _ _ _) rfl) ?_
    refine sv (r_move (v := .int _ _) rfl) ?_
    obtain ⟨y14, hy14, h⟩ := bindE h
    refine a_idx (e := e_batonref25_Device) (xs := x0) (i := xl1_t5) Try.underlying29 I86 rfl rfl (Rd.cs (hR0p.ext e1)) e_batonref25_Device_len (by decide) hm0p hy14 ?_
    intro p14 hp14
    refine sv (r_fieldAddr Try.underlying86 rfl I3 (by decide) rfl) ?_
    refine s_load1 (v := .int _ _) Try.underlying3 rfl rfl (cellP hp14 0 rfl) ?_
    refine sv (r_move (v := .int _ _) rfl) ?_
    refine c_eql rfl rfl (fun h18 => ?_) (fun h18 => ?_)
    · replace h := iT h18 h
      refine s_nil ?_
      refine c_next ?_
      refine c_condT rfl ?_
      refine c_seq ?_
      refine c_reg ?_
      refine sv (r_move (v := .int _ _) rfl) ?_
      refine sv (r_assign (v := .int _ _) rfl) ?_
      refine s_nil ?_
      refine c_next ?_
      refine c_ret ?_
      refine r_block ?_
      refine r_then ?_
      refine r_then ?_
      refine r_block ?_
      refine r_then ?_
      replace h := crossE h hyl1
      refine e_1 (v := .int _ _) Try.results49 rfl ?_
      rw [← Option.some.inj h]
      exact ⟨rfl, hO1, e1⟩
    replace h := iF h18 h
    refine s_nil ?_
    refine c_next ?_
    refine c_condF rfl ?_
    refine c_skip ?_
    refine x_norm ?_
    refine c_next ?_
    refine c_reg ?_
    refine sv (r_move (v := .int _ _) rfl) ?_
    refine sv (r_addI (a := xl1_t5) (b := 1) rfl rfl) ?_
    refine sv (r_assign (v := .int _ _) rfl) ?_
    refine s_nil ?_
    refine l_end (m' := kl1) (Nat.lt_succ_self _) ?_
    rw [← Option.some.inj h] at hyl1
    exact ⟨(w64 (xl1_t5 + 1)), hyl1, rfl, rfl, rfl, hO1, e1⟩
  replace h := iF (Int.not_lt.2 h9) h
  refine s_nil ?_
  refine c_next ?_
  refine c_condF rfl ?_
  refine c_exit ?_
  refine x_then ?_
  refine x_then ?_
  refine x_same ?_
  replace h := crossE h hyl1
  refine c_next ?_
  refine c_seq ?_
  refine c_reg ?_
  refine sv (r_assign (v := .int _ _) rfl) ?_
  refine s_nil ?_
  refine c_next ?_
  refine c_ret ?_
  refine e_1 (v := .int _ _) Try.results49 rfl ?_
  rw [← Option.some.inj h]
  exact ⟨rfl, hO1, e1⟩
theorem c_batonref25_with (x0 : (List T_batonref25_Device)) (x1 : T_batonref25_Device) (aP0 : Option Addr) (mP0 cP0 : Nat)  (r : (List T_batonref25_Device)) (h : F_batonref25_with x0 x1 = some r) (w : World) (L : Hp) (hm0p : x0.length = mP0) (hc0p : mP0 ≤ cP0) (hR0p : Rd w L aP0 (fl e_batonref25_Device x0)) (hO : Own w L) :
    Calls Try.prog 50 #[(.slice aP0 mP0 cP0), (.agg #[(.int .i64 x1.Id), (.int .i64 x1.Times), (.bool x1.Gone), (.int .i64 x1.Last)])] w fun en w' => ∃ (ra0 : Option Addr) (rm0 rc0 : Nat) (rS0 : Hp), en = .returned (.slice ra0 rm0 rc0) ∧ r.length = rm0 ∧ OwnSl 86 4 ra0 rm0 rc0 (fl e_batonref25_Device r) rS0 ∧ Own w' (rS0 ++ L) ∧ Ext w L w' (rS0 ++ L) := by
  unfold F_batonref25_with at h
  refine enter (n := 52) [(.slice aP0 mP0 cP0), (.agg #[(.int .i64 x1.Id), (.int .i64 x1.Times), (.bool x1.Gone), (.int .i64 x1.Last)])] Try.func50 rfl rfl (Nat.le_of_ble_eq_true rfl) ?_
  refine c_seq ?_
  refine c_reg ?_
  refine s_box (v := (.agg #[(.int .i64 x1.Id), (.int .i64 x1.Times), (.bool x1.Gone), (.int .i64 x1.Last)])) rfl hO ?_
  intro b3 w2 hz3 hl3 hO2 e2
  have hO3 : Own w2 ((b3, .cells #[(.int .i64 x1.Id), (.int .i64 x1.Times), (.bool x1.Gone), (.int .i64 x1.Last)] 86 (0, 0)) :: L) := hO2
  refine sv (r_assign (v := .slice _ _ _) rfl) ?_
  refine s_nil ?_
  refine c_next ?_
  refine c_seq ?_
  refine c_reg ?_
  refine sv (r_assign (v := .slice _ _ _) rfl) ?_
  refine s_nil ?_
  refine c_next ?_
  refine c_seq ?_
  refine c_reg ?_
  refine sv (r_assign (v := .bool false) rfl) ?_
  refine s_nil ?_
  refine c_next ?_
  refine c_seq ?_
  refine c_seq ?_
  refine c_reg ?_
  refine sv (r_assign (v := .int _ _) rfl) ?_
  refine s_nil ?_
  refine c_next ?_
  refine c_block ?_
  have hR0p := (hR0p.ext e2)
  obtain ⟨kl191, hkl191⟩ := loop_iff.1 h
  clear h
  refine c_loopL hO3 (fun Lc f0 m g wl => ∃ (xl1_t5 : (List T_batonref25_Device)) (xl1_t6 : Bool) (xl1_t7 : Int) (al1_0 : Option Addr) (ml1_0 cl1_0 : Nat) (Sl1_0 : Hp), (iterK (batonref25_with_l1 x0 x1) m (xl1_t5, xl1_t6, xl1_t7) = some r) ∧ g 0 = (.slice aP0 mP0 cP0) ∧ g 3 = (.pointer (some ⟨b3, 0, none⟩)) ∧ g 5 = (.slice al1_0 ml1_0 cl1_0) ∧ g 6 = (.bool xl1_t6) ∧ g 7 = (.int .i64 xl1_t7) ∧ xl1_t5.length = ml1_0 ∧ OwnSl 86 4 al1_0 ml1_0 cl1_0 (fl e_batonref25_Device xl1_t5) Sl1_0 ∧ Own wl (Sl1_0 ++ ((b3, .cells #[(.int .i64 x1.Id), (.int .i64 x1.Times), (.bool x1.Gone), (.int .i64 x1.Last)] 86 (0, 0)) :: L)) ∧ Ext w2 Lc wl (Sl1_0 ++ ((b3, .cells #[(.int .i64 x1.Id), (.int .i64 x1.Times), (.bool x1.Gone), (.int .i64 x1.Last)] 86 (0, 0)) :: L))) kl191 ?_ ?_
  · skip
    exact ⟨[], false, 0, none, 0, 0, [], hkl191, rfl, rfl, rfl, rfl, rfl, rfl, (OwnSl.nil _ _), hO3, (Ext.refl _ _)⟩
  clear hkl191
  intro mm191 gg191 w191 hI191
  obtain ⟨xl1_t5, xl1_t6, xl1_t7, al1_0, ml1_0, cl1_0, Sl1_0, hkl191, hsl1_0, hsl1_3, hsl1_5, hsl1_6, hsl1_7, hml1_0, hSl1_0, hO191, e191⟩ := hI191
  obtain ⟨kl191, yl191, rfl, h, hyl191⟩ := iterE hkl191
  clear hkl191
  obtain ⟨qq191, rfl⟩ := fr5 hsl1_0 hsl1_3 hsl1_5 hsl1_6 hsl1_7
  clear hsl1_0 hsl1_3 hsl1_5 hsl1_6 hsl1_7
  refine c_seq ?_
  have hR0p := (hR0p.ext e191)
  obtain ⟨oc192, G192, hG192, h, hr192⟩ := bindG h
  refine c_cutL hO191 (fun Lc f0 g w' => ∃ (xc2_t11 : Bool), (G192 xc2_t11 = some yl191) ∧ g 0 = (.slice aP0 mP0 cP0) ∧ g 3 = (.pointer (some ⟨b3, 0, none⟩)) ∧ g 5 = (.slice al1_0 ml1_0 cl1_0) ∧ g 6 = (.bool xl1_t6) ∧ g 7 = (.int .i64 xl1_t7) ∧ g 11 = (.bool xc2_t11) ∧ Own w' (Sl1_0 ++ ((b3, .cells #[(.int .i64 x1.Id), (.int .i64 x1.Times), (.bool x1.Gone), (.int .i64 x1.Last)] 86 (0, 0)) :: L)) ∧ Ext w191 Lc w' (Sl1_0 ++ ((b3, .cells #[(.int .i64 x1.Id), (.int .i64 x1.Times), (.bool x1.Gone), (.int .i64 x1.Last)] 86 (0, 0)) :: L))) ?_ ?_
  · skip
    refine c_reg ?_
    refine sv (r_move (v := .int _ _) rfl) ?_
    refine sv (r_move (v := .slice _ _ _) rfl) ?_
    refine sv (r_lenL (xs := x0) Try.underlying29 rfl hm0p) ?_
    refine c_lss rfl rfl (fun h11 => ?_) (fun h11 => ?_)
    · replace h := iT h11 h
      refine s_nil ?_
      refine c_next ?_
      rw [← Option.some.inj h] at hr192
      exact ⟨_, rfl, true, hr192, rfl, rfl, rfl, rfl, rfl, rfl, hO191, (Ext.refl _ _)⟩
    replace h := iF (Int.not_lt.2 h11) h
    refine s_nil ?_
    refine c_next ?_
    rw [← Option.some.inj h] at hr192
    exact ⟨_, rfl, false, hr192, rfl, rfl, rfl, rfl, rfl, rfl, hO191, (Ext.refl _ _)⟩
  intro gg192 w192 hI192
  clear h hr192
  obtain ⟨xc2_t11, h, hsc2_0, hsc2_3, hsc2_5, hsc2_6, hsc2_7, hsc2_11, hO192, e192⟩ := hI192
  replace h := hG_ hG192 h; clear hG192
  obtain ⟨qq192, rfl⟩ := fr6 hsc2_0 hsc2_3 hsc2_5 hsc2_6 hsc2_7 hsc2_11
  clear hsc2_0 hsc2_3 hsc2_5 hsc2_6 hsc2_7 hsc2_11
  rcases Bool.eq_false_or_eq_true (xc2_t11) with hb193 | hb193
  · replace h := iT hb193 h
    refine c_condT (congrArg Value.bool hb193) ?_
    refine c_skip ?_
    refine c_next ?_
    refine c_seq ?_
    refine c_block ?_
    have hR0p := (hR0p.ext e192)
    obtain ⟨oc247, G247, hG247, h, hr247⟩ := bindG h
    refine c_cutL hO192 (fun Lc f0 g w' => ∃ (xc4_t5 : (List T_batonref25_Device)) (xc4_t6 : Bool) (ac4_0 : Option Addr) (mc4_0 cc4_0 : Nat) (Sc4_0 : Hp), (G247 (xc4_t5, xc4_t6) = some yl191) ∧ g 0 = (.slice aP0 mP0 cP0) ∧ g 3 = (.pointer (some ⟨b3, 0, none⟩)) ∧ g 5 = (.slice ac4_0 mc4_0 cc4_0) ∧ g 6 = (.bool xc4_t6) ∧ g 7 = (.int .i64 xl1_t7) ∧ xc4_t5.length = mc4_0 ∧ OwnSl 86 4 ac4_0 mc4_0 cc4_0 (fl e_batonref25_Device xc4_t5) Sc4_0 ∧ Own w' (Sc4_0 ++ ((b3, .cells #[(.int .i64 x1.Id), (.int .i64 x1.Times), (.bool x1.Gone), (.int .i64 x1.Last)] 86 (0, 0)) :: L)) ∧ Ext w192 Lc w' (Sc4_0 ++ ((b3, .cells #[(.int .i64 x1.Id), (.int .i64 x1.Times), (.bool x1.Gone), (.int .i64 x1.Last)] 86 (0, 0)) :: L))) ?_ ?_
    · skip
      obtain ⟨oc254, G254, hG254, h, hr254⟩ := bindG h
      refine c_cutL hO192 (fun Lc f0 g w' => ∃ (xc3_t25 : Bool), (G254 xc3_t25 = some oc247) ∧ g 0 = (.slice aP0 mP0 cP0) ∧ g 3 = (.pointer (some ⟨b3, 0, none⟩)) ∧ g 5 = (.slice al1_0 ml1_0 cl1_0) ∧ g 6 = (.bool xl1_t6) ∧ g 7 = (.int .i64 xl1_t7) ∧ g 25 = (.bool xc3_t25) ∧ Own w' (Sl1_0 ++ ((b3, .cells #[(.int .i64 x1.Id), (.int .i64 x1.Times), (.bool x1.Gone), (.int .i64 x1.Last)] 86 (0, 0)) :: L)) ∧ Ext w192 Lc w' (Sl1_0 ++ ((b3, .cells #[(.int .i64 x1.Id), (.int .i64 x1.Times), (.bool x1.Gone), (.int .i64 x1.Last)] 86 (0, 0)) :: L))) ?_ ?_
      · skip
        refine d_startL hO192 hO192.r 12 (by kernel_rfl) (pk_then (pk_then (pk_block (pk_then (pk_then (pk_block (pk_then pk_body))))))) ?_
        intro hP256 wd256 hK256 hO255 e255
        refine dT (i := 0) (listed' := #[I_,O_,O_,O_,O_,O_,O_,O_,O_,O_,O_,O_]) rfl hP256 hK256 (fun wS hS => (r_move (v := .bool _) rfl)) ?_
        refine dT (i := 1) (listed' := #[I_,I_,O_,O_,O_,O_,O_,O_,O_,O_,O_,O_]) rfl hP256 hK256 (fun wS hS => (r_not (b := xl1_t6) rfl)) ?_
        refine dT (i := 2) (listed' := #[I_,I_,I_,O_,O_,O_,O_,O_,O_,O_,O_,O_]) rfl hP256 hK256 (fun wS hS => (r_move (v := .bool _) rfl)) ?_
        rcases Bool.eq_false_or_eq_true (xl1_t6) with hb257 | hb257
        · replace h := iT hb257 h
          refine dS (i := 3) (listed' := #[I_,I_,I_,I_,O_,O_,O_,O_,O_,O_,O_,O_]) rfl 16 hP256 (congrArg Value.bool (nnt hb257)) hK256 ?_
          refine dS (i := 4) (listed' := #[I_,I_,I_,I_,I_,O_,O_,O_,O_,O_,O_,O_]) rfl 16 hP256 (congrArg Value.bool (nnt hb257)) hK256 ?_
          refine dS (i := 5) (listed' := #[I_,I_,I_,I_,I_,I_,O_,O_,O_,O_,O_,O_]) rfl 16 hP256 (congrArg Value.bool (nnt hb257)) hK256 ?_
          refine dS (i := 6) (listed' := #[I_,I_,I_,I_,I_,I_,I_,O_,O_,O_,O_,O_]) rfl 16 hP256 (congrArg Value.bool (nnt hb257)) hK256 ?_
          refine dS (i := 7) (listed' := #[I_,I_,I_,I_,I_,I_,I_,I_,O_,O_,O_,O_]) rfl 16 hP256 (congrArg Value.bool (nnt hb257)) hK256 ?_
          refine dS (i := 8) (listed' := #[I_,I_,I_,I_,I_,I_,I_,I_,I_,O_,O_,O_]) rfl 16 hP256 (congrArg Value.bool (nnt hb257)) hK256 ?_
          refine dS (i := 9) (listed' := #[I_,I_,I_,I_,I_,I_,I_,I_,I_,I_,O_,O_]) rfl 16 hP256 (congrArg Value.bool (nnt hb257)) hK256 ?_
          refine dS (i := 10) (listed' := #[I_,I_,I_,I_,I_,I_,I_,I_,I_,I_,I_,O_]) rfl 16 hP256 (congrArg Value.bool (nnt hb257)) hK256 ?_
          refine dT (i := 11) (listed' := #[I_,I_,I_,I_,I_,I_,I_,I_,I_,I_,I_,I_]) rfl hP256 hK256 (fun wS hS => (r_pickF (v := .bool false) (by exact (congrArg Value.bool (nnt hb257))) rfl)) ?_
          refine d_done (by kernel_rfl) ?_
          refine c_next ?_
          rw [← Option.some.inj h] at hr254
          exact ⟨_, rfl, false, hr254, rfl, rfl, rfl, rfl, rfl, rfl, hO255, e255⟩
        replace h := iF (nt hb257) h
        refine dG (i := 3) (listed' := #[I_,I_,I_,I_,O_,O_,O_,O_,O_,O_,O_,O_]) rfl 16 hP256 (congrArg Value.bool (nnf hb257)) hK256 (fun wS hS => (r_move (v := .slice _ _ _) rfl)) ?_
        refine dG (i := 4) (listed' := #[I_,I_,I_,I_,I_,O_,O_,O_,O_,O_,O_,O_]) rfl 16 hP256 (congrArg Value.bool (nnf hb257)) hK256 (fun wS hS => (r_move (v := .int _ _) rfl)) ?_
        obtain ⟨y19, hy19, h⟩ := bindE h
        obtain ⟨ad19, had19, hk19⟩ := ix_known (e := e_batonref25_Device) (Rd.cs hR0p) e_batonref25_Device_len (by decide) hy19
        have hx19 : Value.slice aP0 mP0 cP0 = .slice (some ad19) mP0 cP0 := by rw [had19]
        refine dG (i := 5) (listed' := #[I_,I_,I_,I_,I_,I_,O_,O_,O_,O_,O_,O_]) rfl 16 hP256 (congrArg Value.bool (nnf hb257)) hK256 (fun wS hS => (ra_idx (xs := x0) (i := xl1_t7) Try.underlying29 I86 (by exact hx19) (by rfl) hm0p hy19)) ?_
        refine dG (i := 6) (listed' := #[I_,I_,I_,I_,I_,I_,I_,O_,O_,O_,O_,O_]) rfl 16 hP256 (congrArg Value.bool (nnf hb257)) hK256 (fun wS hS => (r_fieldAddr Try.underlying86 rfl I3 (by decide) rfl)) ?_
        refine dG (i := 7) (listed' := #[I_,I_,I_,I_,I_,I_,I_,I_,O_,O_,O_,O_]) rfl 16 hP256 (congrArg Value.bool (nnf hb257)) hK256 (fun wS hS => (r_load1 (v := .int _ _) Try.underlying3 rfl rfl (cellP (hk19 _ (hR0p.kept hS)) 0 rfl))) ?_
        refine dG (i := 8) (listed' := #[I_,I_,I_,I_,I_,I_,I_,I_,I_,O_,O_,O_]) rfl 16 hP256 (congrArg Value.bool (nnf hb257)) hK256 (fun wS hS => (r_fieldAddr Try.underlying86 rfl I3 (by decide) rfl)) ?_
        refine dG (i := 9) (listed' := #[I_,I_,I_,I_,I_,I_,I_,I_,I_,I_,O_,O_]) rfl 16 hP256 (congrArg Value.bool (nnf hb257)) hK256 (fun wS hS => (r_load1 (v := .int _ _) Try.underlying3 rfl rfl (cellB (hS.own.get (i := 0) rfl) rfl rfl))) ?_
        refine dt_geqG (i := 10) (listed' := #[I_,I_,I_,I_,I_,I_,I_,I_,I_,I_,I_,O_]) (by rfl) (by kernel_rfl) (by rfl) hP256.u 16 (by rfl) (congrArg Value.bool (nnf hb257)) hK256 rfl rfl (fun h24 => ?_) (fun h24 => ?_)
        · replace h := iT h24 h
          refine dT (i := 11) (listed' := #[I_,I_,I_,I_,I_,I_,I_,I_,I_,I_,I_,I_]) rfl hP256 hK256 (fun wS hS => (r_pickT (v := .bool true) (by exact (congrArg Value.bool (nnf hb257))) rfl)) ?_
          refine d_done (by kernel_rfl) ?_
          refine c_next ?_
          rw [← Option.some.inj h] at hr254
          exact ⟨_, rfl, true, hr254, rfl, rfl, rfl, rfl, rfl, rfl, hO255, e255⟩
        replace h := iF (Int.not_le.2 h24) h
        refine dT (i := 11) (listed' := #[I_,I_,I_,I_,I_,I_,I_,I_,I_,I_,I_,I_]) rfl hP256 hK256 (fun wS hS => (r_pickT (v := .bool false) (by exact (congrArg Value.bool (nnf hb257))) rfl)) ?_
        refine d_done (by kernel_rfl) ?_
        refine c_next ?_
        rw [← Option.some.inj h] at hr254
        exact ⟨_, rfl, false, hr254, rfl, rfl, rfl, rfl, rfl, rfl, hO255, e255⟩
      intro gg254 w254 hI254
      clear h hr254
      obtain ⟨xc3_t25, h, hsc3_0, hsc3_3, hsc3_5, hsc3_6, hsc3_7, hsc3_25, hO254, e254⟩ := hI254
      replace h := hG_ hG254 h; clear hG254
      obtain ⟨qq254, rfl⟩ := fr6 hsc3_0 hsc3_3 hsc3_5 hsc3_6 hsc3_7 hsc3_25
      clear hsc3_0 hsc3_3 hsc3_5 hsc3_6 hsc3_7 hsc3_25
      rcases Bool.eq_false_or_eq_true (xc3_t25) with hb258 | hb258
      · replace h := iT hb258 h
        refine c_condT (congrArg Value.bool hb258) ?_
        refine c_seq ?_
        refine c_reg ?_
        refine sv (r_move (v := .slice _ _ _) rfl) ?_
        refine s_loadAll Try.underlying86 rfl I86 rfl ((hO254.perm (pmbA pmb0)).get (i := 0) rfl) rfl rfl ?_
        refine a_lit (en := e_batonref25_Device) (xs := [x1]) (vs := [(.agg #[(.int .i64 x1.Id), (.int .i64 x1.Times), (.bool x1.Gone), (.int .i64 x1.Last)])]) Try.underlying29 I86 hO254 rfl rfl (by simp [Value.cells]) (by decide) rfl e_batonref25_Device_len rfl (by decide) ?_
        intro a28 m28 c28 S28 w262 hm28 hS28 hO262 e262
        have hR264 := (hS28.drop hO262).2.2
        obtain ⟨hO264, e264⟩ := hO262.dropS
        obtain ⟨y29, hy29, h⟩ := bindE h
        refine a_append (e := e_batonref25_Device) (xs := xl1_t5) (ys := [x1]) Try.underlying29 I86 rfl (by decide) (by decide) rfl rfl hSl1_0 hO264 (Rd.cs hR264) e_batonref25_Device_len e_batonref25_Device1 hml1_0 hm28 hy29 ?_
        intro a29 m29 c29 S29a w263 hm29 hS29a hO263 e263
        refine sv (r_assign (v := .slice _ _ _) rfl) ?_
        refine s_nil ?_
        refine c_next ?_
        refine c_reg ?_
        refine sv (r_assign (v := .bool true) rfl) ?_
        refine s_nil ?_
        refine c_next ?_
        rw [← Option.some.inj h] at hr247
        exact ⟨_, rfl, y29, true, a29, m29, c29, S29a, hr247, rfl, rfl, rfl, rfl, rfl, hm29, hS29a, hO263, (e254.trans (e262.trans (e264.trans e263)))⟩
      replace h := iF (nt hb258) h
      refine c_condF (congrArg Value.bool hb258) ?_
      refine c_skip ?_
      refine c_next ?_
      rw [← Option.some.inj h] at hr247
      exact ⟨_, rfl, xl1_t5, xl1_t6, al1_0, ml1_0, cl1_0, Sl1_0, hr247, rfl, rfl, rfl, rfl, rfl, hml1_0, hSl1_0, hO254, e254⟩
    intro gg247 w247 hI247
    clear h hr247
    obtain ⟨xc4_t5, xc4_t6, ac4_0, mc4_0, cc4_0, Sc4_0, h, hsc4_0, hsc4_3, hsc4_5, hsc4_6, hsc4_7, hmc4_0, hSc4_0, hO247, e247⟩ := hI247
    replace h := hG_ hG247 h; clear hG247
    obtain ⟨qq247, rfl⟩ := fr5 hsc4_0 hsc4_3 hsc4_5 hsc4_6 hsc4_7
    clear hsc4_0 hsc4_3 hsc4_5 hsc4_6 hsc4_7
    have hR0p := (hR0p.ext e247)
    obtain ⟨oc269, G269, hG269, h, hr269⟩ := bindG h
    refine c_cutL hO247 (fun Lc f0 g w' => ∃ (xc5_t37 : Bool), (G269 xc5_t37 = some yl191) ∧ g 0 = (.slice aP0 mP0 cP0) ∧ g 3 = (.pointer (some ⟨b3, 0, none⟩)) ∧ g 5 = (.slice ac4_0 mc4_0 cc4_0) ∧ g 6 = (.bool xc4_t6) ∧ g 7 = (.int .i64 xl1_t7) ∧ g 37 = (.bool xc5_t37) ∧ Own w' (Sc4_0 ++ ((b3, .cells #[(.int .i64 x1.Id), (.int .i64 x1.Times), (.bool x1.Gone), (.int .i64 x1.Last)] 86 (0, 0)) :: L)) ∧ Ext w247 Lc w' (Sc4_0 ++ ((b3, .cells #[(.int .i64 x1.Id), (.int .i64 x1.Times), (.bool x1.Gone), (.int .i64 x1.Last)] 86 (0, 0)) :: L))) ?_ ?_
    · skip
      refine d_startL hO247 hO247.r 8 (by kernel_rfl) (pk_then (pk_block (pk_then (pk_then (pk_block (pk_then pk_body)))))) ?_
      intro hP271 wd271 hK271 hO270 e270
      refine dT (i := 0) (listed' := #[I_,O_,O_,O_,O_,O_,O_,O_]) rfl hP271 hK271 (fun wS hS => (r_move (v := .slice _ _ _) rfl)) ?_
      refine dT (i := 1) (listed' := #[I_,I_,O_,O_,O_,O_,O_,O_]) rfl hP271 hK271 (fun wS hS => (r_move (v := .int _ _) rfl)) ?_
      obtain ⟨y32, hy32, h⟩ := bindE h
      obtain ⟨ad32, had32, hk32⟩ := ix_known (e := e_batonref25_Device) (Rd.cs hR0p) e_batonref25_Device_len (by decide) hy32
      have hx32 : Value.slice aP0 mP0 cP0 = .slice (some ad32) mP0 cP0 := by rw [had32]
      refine dT (i := 2) (listed' := #[I_,I_,I_,O_,O_,O_,O_,O_]) rfl hP271 hK271 (fun wS hS => (ra_idx (xs := x0) (i := xl1_t7) Try.underlying29 I86 (by exact hx32) (by rfl) hm0p hy32)) ?_
      refine dT (i := 3) (listed' := #[I_,I_,I_,I_,O_,O_,O_,O_]) rfl hP271 hK271 (fun wS hS => (r_fieldAddr Try.underlying86 rfl I3 (by decide) rfl)) ?_
      refine dT (i := 4) (listed' := #[I_,I_,I_,I_,I_,O_,O_,O_]) rfl hP271 hK271 (fun wS hS => (r_load1 (v := .int _ _) Try.underlying3 rfl rfl (cellP (hk32 _ (hR0p.kept hS)) 0 rfl))) ?_
      refine dT (i := 5) (listed' := #[I_,I_,I_,I_,I_,I_,O_,O_]) rfl hP271 hK271 (fun wS hS => (r_fieldAddr Try.underlying86 rfl I3 (by decide) rfl)) ?_
      refine dT (i := 6) (listed' := #[I_,I_,I_,I_,I_,I_,I_,O_]) rfl hP271 hK271 (fun wS hS => (r_load1 (v := .int _ _) Try.underlying3 rfl rfl (cellB (hS.own.get (i := 0) rfl) rfl rfl))) ?_
      refine dt_neq (i := 7) (listed' := #[I_,I_,I_,I_,I_,I_,I_,I_]) (by rfl) (by kernel_rfl) (by rfl) hP271.u rfl hK271 rfl rfl (fun h37 => ?_) (fun h37 => ?_)
      · replace h := iT h37 h
        refine d_done (by kernel_rfl) ?_
        refine c_next ?_
        rw [← Option.some.inj h] at hr269
        exact ⟨_, rfl, true, hr269, rfl, rfl, rfl, rfl, rfl, rfl, hO270, e270⟩
      replace h := iF (Classical.not_not.2 h37) h
      refine d_done (by kernel_rfl) ?_
      refine c_next ?_
      rw [← Option.some.inj h] at hr269
      exact ⟨_, rfl, false, hr269, rfl, rfl, rfl, rfl, rfl, rfl, hO270, e270⟩
    intro gg269 w269 hI269
    clear h hr269
    obtain ⟨xc5_t37, h, hsc5_0, hsc5_3, hsc5_5, hsc5_6, hsc5_7, hsc5_37, hO269, e269⟩ := hI269
    replace h := hG_ hG269 h; clear hG269
    obtain ⟨qq269, rfl⟩ := fr6 hsc5_0 hsc5_3 hsc5_5 hsc5_6 hsc5_7 hsc5_37
    clear hsc5_0 hsc5_3 hsc5_5 hsc5_6 hsc5_7 hsc5_37
    rcases Bool.eq_false_or_eq_true (xc5_t37) with hb272 | hb272
    · replace h := iT hb272 h
      refine c_condT (congrArg Value.bool hb272) ?_
      refine c_reg ?_
      refine sv (r_move (v := .slice _ _ _) rfl) ?_
      refine sv (r_move (v := .slice _ _ _) rfl) ?_
      refine sv (r_move (v := .int _ _) rfl) ?_
      obtain ⟨y41, hy41, h⟩ := bindE h
      refine a_idx (e := e_batonref25_Device) (xs := x0) (i := xl1_t7) Try.underlying29 I86 rfl rfl (Rd.cs (hR0p.ext e269)) e_batonref25_Device_len (by decide) hm0p hy41 ?_
      intro p41 hp41
      refine s_loadN (cs := [(.int .i64 y41.Id), (.int .i64 y41.Times), (.bool y41.Gone), (.int .i64 y41.Last)]) Try.underlying86 rfl I86 rfl rfl hp41 ?_
      refine a_lit (en := e_batonref25_Device) (xs := [y41]) (vs := [(.agg #[(.int .i64 y41.Id), (.int .i64 y41.Times), (.bool y41.Gone), (.int .i64 y41.Last)])]) Try.underlying29 I86 hO269 rfl rfl (by simp [Value.cells]) (by decide) rfl e_batonref25_Device_len rfl (by decide) ?_
      intro a43 m43 c43 S43 w273 hm43 hS43 hO273 e273
      have hR275 := (hS43.drop hO273).2.2
      obtain ⟨hO275, e275⟩ := hO273.dropS
      obtain ⟨y44, hy44, h⟩ := bindE h
      refine a_append (e := e_batonref25_Device) (xs := xc4_t5) (ys := [y41]) Try.underlying29 I86 rfl (by decide) (by decide) rfl rfl hSc4_0 hO275 (Rd.cs hR275) e_batonref25_Device_len e_batonref25_Device1 hmc4_0 hm43 hy44 ?_
      intro a44 m44 c44 S44a w274 hm44 hS44a hO274 e274
      refine sv (r_assign (v := .slice _ _ _) rfl) ?_
      refine s_nil ?_
      refine x_norm ?_
      refine c_next ?_
      refine c_reg ?_
      refine sv (r_move (v := .int _ _) rfl) ?_
      refine sv (r_addI (a := xl1_t7) (b := 1) rfl rfl) ?_
      refine sv (r_assign (v := .int _ _) rfl) ?_
      refine s_nil ?_
      refine l_end (m' := kl191) (Nat.lt_succ_self _) ?_
      rw [← Option.some.inj h] at hyl191
      exact ⟨y44, xc4_t6, (w64 (xl1_t7 + 1)), a44, m44, c44, S44a, hyl191, rfl, rfl, rfl, rfl, rfl, hm44, hS44a, hO274, (e191.trans (e192.trans (e247.trans (e269.trans (e273.trans (e275.trans e274))))))⟩
    replace h := iF (nt hb272) h
    refine c_condF (congrArg Value.bool hb272) ?_
    refine c_skip ?_
    refine x_norm ?_
    refine c_next ?_
    refine c_reg ?_
    refine sv (r_move (v := .int _ _) rfl) ?_
    refine sv (r_addI (a := xl1_t7) (b := 1) rfl rfl) ?_
    refine sv (r_assign (v := .int _ _) rfl) ?_
    refine s_nil ?_
    refine l_end (m' := kl191) (Nat.lt_succ_self _) ?_
    rw [← Option.some.inj h] at hyl191
    exact ⟨xc4_t5, xc4_t6, (w64 (xl1_t7 + 1)), ac4_0, mc4_0, cc4_0, Sc4_0, hyl191, rfl, rfl, rfl, rfl, rfl, hmc4_0, hSc4_0, hO269, (e191.trans (e192.trans (e247.trans e269)))⟩
  replace h := iF (nt hb193) h
  refine c_condF (congrArg Value.bool hb193) ?_
  refine c_exit ?_
  refine x_then ?_
  refine x_then ?_
  refine x_same ?_
  replace h := crossE h hyl191
  refine c_next ?_
  refine c_seq ?_
  refine c_seq ?_
  refine c_reg ?_
  refine sv (r_move (v := .bool _) rfl) ?_
  refine sv (r_not (b := xl1_t6) rfl) ?_
  refine s_nil ?_
  refine c_next ?_
  rcases Bool.eq_false_or_eq_true (xl1_t6) with hb276 | hb276
  · replace h := iT hb276 h
    refine c_condF (congrArg Value.bool (nnt hb276)) ?_
    refine c_skip ?_
    refine c_next ?_
    refine c_seq ?_
    refine c_reg ?_
    refine sv (r_move (v := .slice _ _ _) rfl) ?_
    refine sv (r_assign (v := .slice _ _ _) rfl) ?_
    refine s_nil ?_
    refine c_next ?_
    refine c_ret ?_
    refine e_1 (v := .slice _ _ _) Try.results50 rfl ?_
    obtain ⟨hO277, e277⟩ := hO192.permE (pmbA pmb0)
    obtain ⟨hO278, e278⟩ := hO277.drop1
    rw [← Option.some.inj h]
    exact ⟨al1_0, ml1_0, cl1_0, Sl1_0, rfl, hml1_0, hSl1_0, hO278, (e2.trans (e191.trans (e192.trans (e277.trans e278))))⟩
  replace h := iF (nt hb276) h
  refine c_condT (congrArg Value.bool (nnf hb276)) ?_
  refine c_reg ?_
  refine sv (r_move (v := .slice _ _ _) rfl) ?_
  refine s_loadAll Try.underlying86 rfl I86 rfl ((hO192.perm (pmbA pmb0)).get (i := 0) rfl) rfl rfl ?_
  refine a_lit (en := e_batonref25_Device) (xs := [x1]) (vs := [(.agg #[(.int .i64 x1.Id), (.int .i64 x1.Times), (.bool x1.Gone), (.int .i64 x1.Last)])]) Try.underlying29 I86 hO192 rfl rfl (by simp [Value.cells]) (by decide) rfl e_batonref25_Device_len rfl (by decide) ?_
  intro a49 m49 c49 S49 w279 hm49 hS49 hO279 e279
  have hR281 := (hS49.drop hO279).2.2
  obtain ⟨hO281, e281⟩ := hO279.dropS
  obtain ⟨y50, hy50, h⟩ := bindE h
  refine a_append (e := e_batonref25_Device) (xs := xl1_t5) (ys := [x1]) Try.underlying29 I86 rfl (by decide) (by decide) rfl rfl hSl1_0 hO281 (Rd.cs hR281) e_batonref25_Device_len e_batonref25_Device1 hml1_0 hm49 hy50 ?_
  intro a50 m50 c50 S50a w280 hm50 hS50a hO280 e280
  refine sv (r_assign (v := .slice _ _ _) rfl) ?_
  refine s_nil ?_
  refine c_next ?_
  refine c_seq ?_
  refine c_reg ?_
  refine sv (r_move (v := .slice _ _ _) rfl) ?_
  refine sv (r_assign (v := .slice _ _ _) rfl) ?_
  refine s_nil ?_
  refine c_next ?_
  refine c_ret ?_
  refine e_1 (v := .slice _ _ _) Try.results50 rfl ?_
  obtain ⟨hO282, e282⟩ := hO280.permE (pmbA pmb0)
  obtain ⟨hO283, e283⟩ := hO282.drop1
  rw [← Option.some.inj h]
  exact ⟨a50, m50, c50, S50a, rfl, hm50, hS50a, hO283, (e2.trans (e191.trans (e192.trans (e279.trans (e281.trans (e280.trans (e282.trans e283)))))))⟩
theorem c_batonref25_Enrol (x0 : (List T_batonref25_Device)) (x1 : Int) (aP0 : Option Addr) (mP0 cP0 : Nat)  (r : ((List T_batonref25_Device) × Int)) (h : F_batonref25_Enrol x0 x1 = some r) (w : World) (L : Hp) (hm0p : x0.length = mP0) (hc0p : mP0 ≤ cP0) (hR0p : Rd w L aP0 (fl e_batonref25_Device x0)) (hO : Own w L) :
    Calls Try.prog 26 #[(.slice aP0 mP0 cP0), (.int .i64 x1)] w fun en w' => ∃ (ra0 : Option Addr) (rm0 rc0 : Nat), en = .returned (.tuple #[(.slice ra0 rm0 rc0), (.int .i64 r.2)]) ∧ r.1.length = rm0 ∧ rm0 ≤ rc0 ∧ Rd w' L ra0 (fl e_batonref25_Device r.1) ∧ Own w' L ∧ Ext w L w' L := by
  unfold F_batonref25_Enrol at h
  refine enter (n := 47) [(.slice aP0 mP0 cP0), (.int .i64 x1)] Try.func26 rfl rfl (Nat.le_of_ble_eq_true rfl) ?_
  refine c_seq ?_
  refine c_reg ?_
  refine sv (r_assign (v := .slice _ _ _) rfl) ?_
  refine sv (r_assign (v := .int _ _) rfl) ?_
  refine s_nil ?_
  refine c_next ?_
  refine c_seq ?_
  obtain ⟨oc1, G1, hG1, h, hr1⟩ := bindG h
  refine c_cutL hO (fun Lc f0 g w' => ∃ (xc1_t12 : Bool), (G1 xc1_t12 = some r) ∧ g 0 = (.slice aP0 mP0 cP0) ∧ g 1 = (.int .i64 x1) ∧ g 12 = (.bool xc1_t12) ∧ Own w' L ∧ Ext w Lc w' L) ?_ ?_
  · skip
    refine c_reg ?_
    refine sv (r_move (v := .int _ _) rfl) ?_
    refine c_lss rfl rfl (fun h8 => ?_) (fun h8 => ?_)
    · replace h := iT h8 h
      refine sv (r_move (v := .bool true) rfl) ?_
      refine g_skip 9 (by rfl) rfl (by rfl) ?_
      refine g_skip 9 (by rfl) rfl (by rfl) ?_
      refine sv (r_pickT (v := .bool true) rfl rfl) ?_
      refine s_nil ?_
      refine c_next ?_
      rw [← Option.some.inj h] at hr1
      exact ⟨_, rfl, true, hr1, rfl, rfl, rfl, hO, (Ext.refl _ _)⟩
    replace h := iF (Int.not_lt.2 h8) h
    refine sv (r_move (v := .bool false) rfl) ?_
    refine g_do 9 (by rfl) rfl ?_
    refine sv (r_move (v := .int _ _) rfl) ?_
    refine g_do 9 (by rfl) rfl ?_
    refine c_gtr rfl rfl (fun h11 => ?_) (fun h11 => ?_)
    · replace h := iT h11 h
      refine sv (r_pickF (v := .bool true) rfl rfl) ?_
      refine s_nil ?_
      refine c_next ?_
      rw [← Option.some.inj h] at hr1
      exact ⟨_, rfl, true, hr1, rfl, rfl, rfl, hO, (Ext.refl _ _)⟩
    replace h := iF (Int.not_lt.2 h11) h
    refine sv (r_pickF (v := .bool false) rfl rfl) ?_
    refine s_nil ?_
    refine c_next ?_
    rw [← Option.some.inj h] at hr1
    exact ⟨_, rfl, false, hr1, rfl, rfl, rfl, hO, (Ext.refl _ _)⟩
  intro gg1 w1 hI1
  clear h hr1
  obtain ⟨xc1_t12, h, hsc1_0, hsc1_1, hsc1_12, hO1, e1⟩ := hI1
  replace h := hG_ hG1 h; clear hG1
  obtain ⟨qq1, rfl⟩ := fr3 hsc1_0 hsc1_1 hsc1_12
  clear hsc1_0 hsc1_1 hsc1_12
  rcases Bool.eq_false_or_eq_true (xc1_t12) with hb2 | hb2
  · replace h := iT hb2 h
    refine c_condT (congrArg Value.bool hb2) ?_
    refine c_seq ?_
    refine c_reg ?_
    refine sv (r_move (v := .slice _ _ _) rfl) ?_
    refine sv (r_assign (v := .slice _ _ _) rfl) ?_
    refine sv (r_assign (v := .int _ _) rfl) ?_
    refine s_nil ?_
    refine c_next ?_
    refine c_ret ?_
    refine r_then ?_
    refine e_2 (v := .slice _ _ _) (v' := .int _ _) Try.results26 rfl rfl ?_
    rw [← Option.some.inj h]
    exact ⟨aP0, mP0, cP0, rfl, hm0p, hc0p, (hR0p.ext e1), hO1, e1⟩
  replace h := iF (nt hb2) h
  refine c_condF (congrArg Value.bool hb2) ?_
  refine c_skip ?_
  refine c_next ?_
  refine c_seq ?_
  refine c_reg ?_
  refine sv (r_move (v := .slice _ _ _) rfl) ?_
  refine sv (r_move (v := .int _ _) rfl) ?_
  obtain ⟨y16, hy16, h⟩ := bindE h
  refine s_call cf49 rfl (c_batonref25_Find x0 x1 aP0 mP0 cP0 _ hy16 _ _ hm0p hc0p (hR0p.ext e1) hO1) ?_
  rintro er16 w4 ⟨rfl, hO4, e4⟩
  refine ⟨_, rfl, ?_⟩
  refine sv (r_assign (v := .int _ _) rfl) ?_
  refine s_nil ?_
  refine c_next ?_
  refine c_seq ?_
  have hR0p := (hR0p.ext (e1.trans e4))
  obtain ⟨oc6, G6, hG6, h, hr6⟩ := bindG h
  refine c_cutL hO4 (fun Lc f0 g w' => ∃ (xc2_t18 : Bool), (G6 xc2_t18 = some r) ∧ g 0 = (.slice aP0 mP0 cP0) ∧ g 1 = (.int .i64 x1) ∧ g 6 = (.int .i64 y16) ∧ g 18 = (.bool xc2_t18) ∧ Own w' L ∧ Ext w4 Lc w' L) ?_ ?_
  · skip
    refine c_reg ?_
    refine sv (r_move (v := .int _ _) rfl) ?_
    refine c_lss rfl rfl (fun h18 => ?_) (fun h18 => ?_)
    · replace h := iT h18 h
      refine s_nil ?_
      refine c_next ?_
      rw [← Option.some.inj h] at hr6
      exact ⟨_, rfl, true, hr6, rfl, rfl, rfl, rfl, hO4, (Ext.refl _ _)⟩
    replace h := iF (Int.not_lt.2 h18) h
    refine s_nil ?_
    refine c_next ?_
    rw [← Option.some.inj h] at hr6
    exact ⟨_, rfl, false, hr6, rfl, rfl, rfl, rfl, hO4, (Ext.refl _ _)⟩
  intro gg6 w6 hI6
  clear h hr6
  obtain ⟨xc2_t18, h, hsc2_0, hsc2_1, hsc2_6, hsc2_18, hO6, e6⟩ := hI6
  replace h := hG_ hG6 h; clear hG6
  obtain ⟨qq6, rfl⟩ := fr4 hsc2_0 hsc2_1 hsc2_6 hsc2_18
  clear hsc2_0 hsc2_1 hsc2_6 hsc2_18
  rcases Bool.eq_false_or_eq_true (xc2_t18) with hb7 | hb7
  · replace h := iT hb7 h
    refine c_condT (congrArg Value.bool hb7) ?_
    refine c_seq ?_
    refine c_reg ?_
    refine sv (r_move (v := .slice _ _ _) rfl) ?_
    refine sv (r_move (v := .int _ _) rfl) ?_
    refine sv (r_build (vs := [(0, (.int .i64 x1)), (1, (.int .i64 1))]) (cells := #[(.int .i64 x1), (.int .i64 1), (.bool false), (.int .i64 0)]) I86 pl86 rfl (by kernel_rfl)) ?_
    obtain ⟨y22, hy22, h⟩ := bindE h
    refine s_call cf50 rfl (c_batonref25_with x0 ({ Id := x1, Times := 1, Gone := false, Last := 0 } : T_batonref25_Device) aP0 mP0 cP0 _ hy22 _ _ hm0p hc0p (hR0p.ext e6) hO6) ?_
    rintro er22 w9 ⟨a22_0, m22_0, c22_0, S22_0, rfl, hm22_0, hS22_0, hO9, e9⟩
    refine ⟨_, rfl, ?_⟩
    refine sv (r_assign (v := .slice _ _ _) rfl) ?_
    refine sv (r_assign (v := .int _ _) rfl) ?_
    refine s_nil ?_
    refine c_next ?_
    refine c_ret ?_
    refine r_then ?_
    refine e_2 (v := .slice _ _ _) (v' := .int _ _) Try.results26 rfl rfl ?_
    have hR10 := (hS22_0.drop hO9).2.2
    obtain ⟨hO10, e10⟩ := hO9.dropS
    rw [← Option.some.inj h]
    exact ⟨a22_0, m22_0, c22_0, rfl, hm22_0, hS22_0.le.1, hR10, hO10, (e1.trans (e4.trans (e6.trans (e9.trans e10))))⟩
  replace h := iF (nt hb7) h
  refine c_condF (congrArg Value.bool hb7) ?_
  refine c_skip ?_
  refine c_next ?_
  refine c_seq ?_
  refine c_seq ?_
  refine c_reg ?_
  refine sv (r_move (v := .slice _ _ _) rfl) ?_
  refine sv (r_move (v := .int _ _) rfl) ?_
  obtain ⟨y25, hy25, h⟩ := bindE h
  refine a_idx (e := e_batonref25_Device) (xs := x0) (i := y16) Try.underlying29 I86 rfl rfl (Rd.cs (hR0p.ext e6)) e_batonref25_Device_len (by decide) hm0p hy25 ?_
  intro p25 hp25
  refine sv (r_fieldAddr Try.underlying86 rfl I4 (by decide) rfl) ?_
  refine s_load1 (v := .bool _) Try.underlying4 rfl rfl (cellP hp25 2 rfl) ?_
  refine sv (r_not (b := y25.Gone) rfl) ?_
  refine s_nil ?_
  refine c_next ?_
  rcases Bool.eq_false_or_eq_true (y25.Gone) with hb12 | hb12
  · replace h := iT hb12 h
    refine c_condF (congrArg Value.bool (nnt hb12)) ?_
    refine c_skip ?_
    refine c_next ?_
    refine c_seq ?_
    refine c_seq ?_
    refine c_reg ?_
    refine sv (r_move (v := .slice _ _ _) rfl) ?_
    refine sv (r_move (v := .int _ _) rfl) ?_
    obtain ⟨y32, hy32, h⟩ := bindE h
    refine a_idx (e := e_batonref25_Device) (xs := x0) (i := y16) Try.underlying29 I86 rfl rfl (Rd.cs (hR0p.ext e6)) e_batonref25_Device_len (by decide) hm0p hy32 ?_
    intro p32 hp32
    refine sv (r_fieldAddr Try.underlying86 rfl I3 (by decide) rfl) ?_
    refine s_load1 (v := .int _ _) Try.underlying3 rfl rfl (cellP hp32 1 rfl) ?_
    refine c_eql rfl rfl (fun h35 => ?_) (fun h35 => ?_)
    · replace h := iT h35 h
      refine s_nil ?_
      refine c_next ?_
      refine c_condT rfl ?_
      refine c_seq ?_
      refine c_reg ?_
      refine sv (r_move (v := .slice _ _ _) rfl) ?_
      refine sv (r_assign (v := .slice _ _ _) rfl) ?_
      refine sv (r_assign (v := .int _ _) rfl) ?_
      refine s_nil ?_
      refine c_next ?_
      refine c_ret ?_
      refine r_then ?_
      refine e_2 (v := .slice _ _ _) (v' := .int _ _) Try.results26 rfl rfl ?_
      rw [← Option.some.inj h]
      exact ⟨aP0, mP0, cP0, rfl, hm0p, hc0p, (hR0p.ext e6), hO6, (e1.trans (e4.trans e6))⟩
    replace h := iF h35 h
    refine s_nil ?_
    refine c_next ?_
    refine c_condF rfl ?_
    refine c_skip ?_
    refine c_next ?_
    refine c_seq ?_
    refine c_reg ?_
    refine sv (r_move (v := .slice _ _ _) rfl) ?_
    refine sv (r_move (v := .int _ _) rfl) ?_
    refine sv (r_move (v := .slice _ _ _) rfl) ?_
    refine sv (r_move (v := .int _ _) rfl) ?_
    obtain ⟨y41, hy41, h⟩ := bindE h
    refine a_idx (e := e_batonref25_Device) (xs := x0) (i := y16) Try.underlying29 I86 rfl rfl (Rd.cs (hR0p.ext e6)) e_batonref25_Device_len (by decide) hm0p hy41 ?_
    intro p41 hp41
    refine sv (r_fieldAddr Try.underlying86 rfl I3 (by decide) rfl) ?_
    refine s_load1 (v := .int _ _) Try.underlying3 rfl rfl (cellP hp41 1 rfl) ?_
    refine sv (r_addI (a := y41.Times) (b := 1) rfl rfl) ?_
    refine sv (r_build (vs := [(0, (.int .i64 x1)), (1, (.int .i64 ((w64 (y41.Times + 1)))))]) (cells := #[(.int .i64 x1), (.int .i64 ((w64 (y41.Times + 1)))), (.bool false), (.int .i64 0)]) I86 pl86 rfl (by kernel_rfl)) ?_
    obtain ⟨y46, hy46, h⟩ := bindE h
    refine s_call cf50 rfl (c_batonref25_with x0 ({ Id := x1, Times := (w64 (y41.Times + 1)), Gone := false, Last := 0 } : T_batonref25_Device) aP0 mP0 cP0 _ hy46 _ _ hm0p hc0p (hR0p.ext e6) hO6) ?_
    rintro er46 w13 ⟨a46_0, m46_0, c46_0, S46_0, rfl, hm46_0, hS46_0, hO13, e13⟩
    refine ⟨_, rfl, ?_⟩
    refine sv (r_assign (v := .slice _ _ _) rfl) ?_
    refine sv (r_assign (v := .int _ _) rfl) ?_
    refine s_nil ?_
    refine c_next ?_
    refine c_ret ?_
    refine e_2 (v := .slice _ _ _) (v' := .int _ _) Try.results26 rfl rfl ?_
    have hR14 := (hS46_0.drop hO13).2.2
    obtain ⟨hO14, e14⟩ := hO13.dropS
    rw [← Option.some.inj h]
    exact ⟨a46_0, m46_0, c46_0, rfl, hm46_0, hS46_0.le.1, hR14, hO14, (e1.trans (e4.trans (e6.trans (e13.trans e14))))⟩
  replace h := iF (nt hb12) h
  refine c_condT (congrArg Value.bool (nnf hb12)) ?_
  refine c_seq ?_
  refine c_reg ?_
  refine sv (r_move (v := .slice _ _ _) rfl) ?_
  refine sv (r_assign (v := .slice _ _ _) rfl) ?_
  refine sv (r_assign (v := .int _ _) rfl) ?_
  refine s_nil ?_
  refine c_next ?_
  refine c_ret ?_
  refine r_then ?_
  refine e_2 (v := .slice _ _ _) (v' := .int _ _) Try.results26 rfl rfl ?_
  rw [← Option.some.inj h]
  exact ⟨aP0, mP0, cP0, rfl, hm0p, hc0p, (hR0p.ext e6), hO6, (e1.trans (e4.trans e6))⟩
theorem c_batonref25_There (x0 : (List T_batonref25_Device)) (x1 : Int) (aP0 : Option Addr) (mP0 cP0 : Nat)  (r : Int) (h : F_batonref25_There x0 x1 = some r) (w : World) (L : Hp) (hm0p : x0.length = mP0) (hc0p : mP0 ≤ cP0) (hR0p : Rd w L aP0 (fl e_batonref25_Device x0)) (hO : Own w L) :
    Calls Try.prog 51 #[(.slice aP0 mP0 cP0), (.int .i64 x1)] w fun en w' => en = .returned (.int .i64 r) ∧ Own w' L ∧ Ext w L w' L := by
  unfold F_batonref25_There at h
  refine enter (n := 16) [(.slice aP0 mP0 cP0), (.int .i64 x1)] Try.func51 rfl rfl (Nat.le_of_ble_eq_true rfl) ?_
  refine c_seq ?_
  refine c_reg ?_
  refine sv (r_assign (v := .int _ _) rfl) ?_
  refine s_nil ?_
  refine c_next ?_
  refine c_seq ?_
  refine c_reg ?_
  refine sv (r_move (v := .slice _ _ _) rfl) ?_
  refine sv (r_move (v := .int _ _) rfl) ?_
  obtain ⟨y8, hy8, h⟩ := bindE h
  refine s_call cf49 rfl (c_batonref25_Find x0 x1 aP0 mP0 cP0 _ hy8 _ _ hm0p hc0p hR0p hO) ?_
  rintro er8 w2 ⟨rfl, hO2, e2⟩
  refine ⟨_, rfl, ?_⟩
  refine sv (r_assign (v := .int _ _) rfl) ?_
  refine s_nil ?_
  refine c_next ?_
  refine c_seq ?_
  refine c_seq ?_
  refine c_reg ?_
  refine sv (r_move (v := .int _ _) rfl) ?_
  refine c_lss rfl rfl (fun h10 => ?_) (fun h10 => ?_)
  · replace h := iT h10 h
    refine s_nil ?_
    refine c_next ?_
    refine c_condT rfl ?_
    refine c_seq ?_
    refine c_reg ?_
    refine sv (r_assign (v := .int _ _) rfl) ?_
    refine s_nil ?_
    refine c_next ?_
    refine c_ret ?_
    refine r_then ?_
    refine e_1 (v := .int _ _) Try.results51 rfl ?_
    rw [← Option.some.inj h]
    exact ⟨rfl, hO2, e2⟩
  replace h := iF (Int.not_lt.2 h10) h
  refine s_nil ?_
  refine c_next ?_
  refine c_condF rfl ?_
  refine c_skip ?_
  refine c_next ?_
  refine c_seq ?_
  refine c_seq ?_
  refine c_reg ?_
  refine sv (r_move (v := .slice _ _ _) rfl) ?_
  refine sv (r_move (v := .int _ _) rfl) ?_
  obtain ⟨y13, hy13, h⟩ := bindE h
  refine a_idx (e := e_batonref25_Device) (xs := x0) (i := y8) Try.underlying29 I86 rfl rfl (Rd.cs (hR0p.ext e2)) e_batonref25_Device_len (by decide) hm0p hy13 ?_
  intro p13 hp13
  refine sv (r_fieldAddr Try.underlying86 rfl I4 (by decide) rfl) ?_
  refine s_load1 (v := .bool _) Try.underlying4 rfl rfl (cellP hp13 2 rfl) ?_
  refine s_nil ?_
  refine c_next ?_
  rcases Bool.eq_false_or_eq_true (y13.Gone) with hb3 | hb3
  · replace h := iT hb3 h
    refine c_condT (congrArg Value.bool hb3) ?_
    refine c_seq ?_
    refine c_reg ?_
    refine sv (r_assign (v := .int _ _) rfl) ?_
    refine s_nil ?_
    refine c_next ?_
    refine c_ret ?_
    refine r_then ?_
    refine e_1 (v := .int _ _) Try.results51 rfl ?_
    rw [← Option.some.inj h]
    exact ⟨rfl, hO2, e2⟩
  replace h := iF (nt hb3) h
  refine c_condF (congrArg Value.bool hb3) ?_
  refine c_skip ?_
  refine c_next ?_
  refine c_seq ?_
  refine c_reg ?_
  refine sv (r_assign (v := .int _ _) rfl) ?_
  refine s_nil ?_
  refine c_next ?_
  refine c_ret ?_
  refine e_1 (v := .int _ _) Try.results51 rfl ?_
  rw [← Option.some.inj h]
  exact ⟨rfl, hO2, e2⟩
theorem c_batonref25_Revoke (x0 : (List T_batonref25_Device)) (x1 : Int) (aP0 : Option Addr) (mP0 cP0 : Nat)  (r : ((List T_batonref25_Device) × Int)) (h : F_batonref25_Revoke x0 x1 = some r) (w : World) (L : Hp) (hm0p : x0.length = mP0) (hc0p : mP0 ≤ cP0) (hR0p : Rd w L aP0 (fl e_batonref25_Device x0)) (hO : Own w L) :
    Calls Try.prog 27 #[(.slice aP0 mP0 cP0), (.int .i64 x1)] w fun en w' => ∃ (ra0 : Option Addr) (rm0 rc0 : Nat), en = .returned (.tuple #[(.slice ra0 rm0 rc0), (.int .i64 r.2)]) ∧ r.1.length = rm0 ∧ rm0 ≤ rc0 ∧ Rd w' L ra0 (fl e_batonref25_Device r.1) ∧ Own w' L ∧ Ext w L w' L := by
  unfold F_batonref25_Revoke at h
  refine enter (n := 25) [(.slice aP0 mP0 cP0), (.int .i64 x1)] Try.func27 rfl rfl (Nat.le_of_ble_eq_true rfl) ?_
  refine c_seq ?_
  refine c_reg ?_
  refine sv (r_assign (v := .slice _ _ _) rfl) ?_
  refine sv (r_assign (v := .int _ _) rfl) ?_
  refine s_nil ?_
  refine c_next ?_
  refine c_seq ?_
  refine c_seq ?_
  refine c_reg ?_
  refine sv (r_move (v := .slice _ _ _) rfl) ?_
  refine sv (r_move (v := .int _ _) rfl) ?_
  obtain ⟨y10, hy10, h⟩ := bindE h
  refine s_call cf51 rfl (c_batonref25_There x0 x1 aP0 mP0 cP0 _ hy10 _ _ hm0p hc0p hR0p hO) ?_
  rintro er10 w4 ⟨rfl, hO4, e4⟩
  refine ⟨_, rfl, ?_⟩
  refine sv (r_assign (v := .int _ _) rfl) ?_
  refine s_nil ?_
  refine c_next ?_
  refine c_seq ?_
  refine c_reg ?_
  refine sv (r_move (v := .int _ _) rfl) ?_
  refine c_neq rfl rfl (fun h12 => ?_) (fun h12 => ?_)
  · replace h := iT h12 h
    refine s_nil ?_
    refine c_next ?_
    refine c_condT rfl ?_
    refine c_seq ?_
    refine c_reg ?_
    refine sv (r_move (v := .slice _ _ _) rfl) ?_
    refine sv (r_move (v := .int _ _) rfl) ?_
    refine sv (r_assign (v := .slice _ _ _) rfl) ?_
    refine sv (r_assign (v := .int _ _) rfl) ?_
    refine s_nil ?_
    refine c_next ?_
    refine c_ret ?_
    refine r_then ?_
    refine e_2 (v := .slice _ _ _) (v' := .int _ _) Try.results27 rfl rfl ?_
    rw [← Option.some.inj h]
    exact ⟨aP0, mP0, cP0, rfl, hm0p, hc0p, (hR0p.ext e4), hO4, e4⟩
  replace h := iF (Classical.not_not.2 h12) h
  refine s_nil ?_
  refine c_next ?_
  refine c_condF rfl ?_
  refine c_skip ?_
  refine c_next ?_
  refine c_seq ?_
  refine c_reg ?_
  refine sv (r_move (v := .slice _ _ _) rfl) ?_
  refine sv (r_move (v := .slice _ _ _) rfl) ?_
  refine sv (r_move (v := .int _ _) rfl) ?_
  obtain ⟨y18, hy18, h⟩ := bindE h
  refine s_call cf49 rfl (c_batonref25_Find x0 x1 aP0 mP0 cP0 _ hy18 _ _ hm0p hc0p (hR0p.ext e4) hO4) ?_
  rintro er18 w8 ⟨rfl, hO8, e8⟩
  refine ⟨_, rfl, ?_⟩
  obtain ⟨y19, hy19, h⟩ := bindE h
  refine a_idx (e := e_batonref25_Device) (xs := x0) (i := y18) Try.underlying29 I86 rfl rfl (Rd.cs (hR0p.ext (e4.trans e8))) e_batonref25_Device_len (by decide) hm0p hy19 ?_
  intro p19 hp19
  refine s_loadN (cs := [(.int .i64 y19.Id), (.int .i64 y19.Times), (.bool y19.Gone), (.int .i64 y19.Last)]) Try.underlying86 rfl I86 rfl rfl hp19 ?_
  refine s_alloc I86 hO8 ?_
  intro b7 w9 hz7 hl7 hO9 e9
  have hO10 : Own w9 ((b7, .cells #[(.int .i64 0), (.int .i64 0), (.bool false), (.int .i64 0)] 86 (0, 0)) :: L) := hO9
  refine s_storeN (vs := #[(.int .i64 y19.Id), (.int .i64 y19.Times), (.bool y19.Gone), (.int .i64 y19.Last)]) I86 rfl rfl rfl hO10 (i := 0) rfl (Nat.le_of_ble_eq_true rfl) (List.all_eq_true.1 rfl) ?_
  intro w12 hO12 e12
  have hO13 : Own w12 ((b7, .cells #[(.int .i64 y19.Id), (.int .i64 y19.Times), (.bool y19.Gone), (.int .i64 y19.Last)] 86 (0, 0)) :: L) := hO12
  refine s_nil ?_
  refine c_next ?_
  refine c_seq ?_
  refine c_reg ?_
  refine sv (r_fieldAddr Try.underlying86 rfl I4 (by decide) rfl) ?_
  refine s_store1 (v := (.bool true)) (o := 2) I4 rfl rfl rfl hO13 (i := 0) rfl rfl rfl ?_
  intro w15 hO15 e15
  have hO16 : Own w15 ((b7, .cells #[(.int .i64 y19.Id), (.int .i64 y19.Times), (.bool true), (.int .i64 y19.Last)] 86 (0, 0)) :: L) := hO15
  refine s_nil ?_
  refine c_next ?_
  refine c_seq ?_
  refine c_reg ?_
  refine sv (r_move (v := .slice _ _ _) rfl) ?_
  refine s_loadAll Try.underlying86 rfl I86 rfl (hO16.get (i := 0) rfl) rfl rfl ?_
  obtain ⟨y24, hy24, h⟩ := bindE h
  refine s_call cf50 rfl (c_batonref25_with x0 ({ Id := y19.Id, Times := y19.Times, Gone := true, Last := y19.Last } : T_batonref25_Device) aP0 mP0 cP0 _ hy24 _ _ hm0p hc0p (hR0p.ext (e4.trans (e8.trans (e9.trans (e12.trans e15))))) hO16) ?_
  rintro er24 w18 ⟨a24_0, m24_0, c24_0, S24_0, rfl, hm24_0, hS24_0, hO18, e18⟩
  refine ⟨_, rfl, ?_⟩
  refine sv (r_assign (v := .slice _ _ _) rfl) ?_
  refine sv (r_assign (v := .int _ _) rfl) ?_
  refine s_nil ?_
  refine c_next ?_
  refine c_ret ?_
  refine e_2 (v := .slice _ _ _) (v' := .int _ _) Try.results27 rfl rfl ?_
  have hR19 := (hS24_0.drop hO18).2.2
  obtain ⟨hO19, e19⟩ := hO18.dropS
  obtain ⟨hO20, e20⟩ := hO19.drop1
  rw [← Option.some.inj h]
  exact ⟨a24_0, m24_0, c24_0, rfl, hm24_0, hS24_0.le.1, (hR19.ext e20), hO20, (e4.trans (e8.trans (e9.trans (e12.trans (e15.trans (e18.trans (e19.trans e20)))))))⟩
theorem c_batonref27_move (x0 : T_batonref27_State) (x1 : Int) (aP0 : Option Addr) (mP0 cP0 : Nat) (aP1 : Option Addr) (mP1 cP1 : Nat)  (r : (T_batonref27_State × Int)) (h : F_batonref27_move x0 x1 = some r) (w : World) (L : Hp) (hm0p : x0.Roster.length = mP0) (hc0p : mP0 ≤ cP0) (hR0p : Rd w L aP0 (fl e_batonref25_Device x0.Roster)) (hm1p : x0.Tickets.length = mP1) (hc1p : mP1 ≤ cP1) (hR1p : Rd w L aP1 (fl e_batonref26_Ticket x0.Tickets)) (hO : Own w L) :
    Calls Try.prog 28 #[(.agg #[(.int .i64 x0.Epoch), (.int .i64 x0.Owner), (.int .i64 x0.Next), (.slice aP0 mP0 cP0), (.slice aP1 mP1 cP1)]), (.int .i64 x1)] w fun en w' => ∃ (ra0 : Option Addr) (rm0 rc0 : Nat) (ra1 : Option Addr) (rm1 rc1 : Nat), en = .returned (.tuple #[(.agg #[(.int .i64 r.1.Epoch), (.int .i64 r.1.Owner), (.int .i64 r.1.Next), (.slice ra0 rm0 rc0), (.slice ra1 rm1 rc1)]), (.int .i64 r.2)]) ∧ r.1.Roster.length = rm0 ∧ rm0 ≤ rc0 ∧ Rd w' L ra0 (fl e_batonref25_Device r.1.Roster) ∧ r.1.Tickets.length = rm1 ∧ rm1 ≤ rc1 ∧ Rd w' L ra1 (fl e_batonref26_Ticket r.1.Tickets) ∧ Own w' L ∧ Ext w L w' L := by
  unfold F_batonref27_move at h
  refine enter (n := 19) [(.agg #[(.int .i64 x0.Epoch), (.int .i64 x0.Owner), (.int .i64 x0.Next), (.slice aP0 mP0 cP0), (.slice aP1 mP1 cP1)]), (.int .i64 x1)] Try.func28 rfl rfl (Nat.le_of_ble_eq_true rfl) ?_
  refine c_seq ?_
  refine c_reg ?_
  refine s_box (v := (.agg #[(.int .i64 x0.Epoch), (.int .i64 x0.Owner), (.int .i64 x0.Next), (.slice aP0 mP0 cP0), (.slice aP1 mP1 cP1)])) rfl hO ?_
  intro b2 w3 hz2 hl2 hO3 e3
  have hO4 : Own w3 ((b2, .cells #[(.int .i64 x0.Epoch), (.int .i64 x0.Owner), (.int .i64 x0.Next), (.slice aP0 mP0 cP0), (.slice aP1 mP1 cP1)] 32 (0, 0)) :: L) := hO3
  refine s_alloc I32 hO4 ?_
  intro b4 w6 hz4 hl4 hO6 e6
  have hO7 : Own w6 ((b4, .cells #[(.int .i64 0), (.int .i64 0), (.int .i64 0), (.slice none 0 0), (.slice none 0 0)] 32 (0, 0)) :: ((b2, .cells #[(.int .i64 x0.Epoch), (.int .i64 x0.Owner), (.int .i64 x0.Next), (.slice aP0 mP0 cP0), (.slice aP1 mP1 cP1)] 32 (0, 0)) :: L)) := hO6
  refine sv (r_assign (v := .int _ _) rfl) ?_
  refine s_nil ?_
  refine c_next ?_
  refine c_seq ?_
  refine c_seq ?_
  refine c_reg ?_
  refine sv (r_fieldAddr Try.underlying32 rfl I3 (by decide) rfl) ?_
  refine s_load1 (v := .int _ _) Try.underlying3 rfl rfl (cellB (hO7.get (i := 1) rfl) rfl rfl) ?_
  refine c_eql rfl rfl (fun h8 => ?_) (fun h8 => ?_)
  · replace h := iT h8 h
    refine s_nil ?_
    refine c_next ?_
    refine c_condT rfl ?_
    refine c_seq ?_
    refine c_reg ?_
    refine s_loadAll Try.underlying32 rfl I32 rfl (hO7.get (i := 1) rfl) rfl rfl ?_
    refine s_storeN (vs := #[(.int .i64 x0.Epoch), (.int .i64 x0.Owner), (.int .i64 x0.Next), (.slice aP0 mP0 cP0), (.slice aP1 mP1 cP1)]) I32 rfl rfl rfl hO7 (i := 0) rfl (Nat.le_of_ble_eq_true rfl) (List.all_eq_true.1 rfl) ?_
    intro w11 hO11 e11
    have hO12 : Own w11 ((b4, .cells #[(.int .i64 x0.Epoch), (.int .i64 x0.Owner), (.int .i64 x0.Next), (.slice aP0 mP0 cP0), (.slice aP1 mP1 cP1)] 32 (0, 0)) :: ((b2, .cells #[(.int .i64 x0.Epoch), (.int .i64 x0.Owner), (.int .i64 x0.Next), (.slice aP0 mP0 cP0), (.slice aP1 mP1 cP1)] 32 (0, 0)) :: L)) := hO11
    refine sv (r_assign (v := .int _ _) rfl) ?_
    refine s_nil ?_
    refine c_next ?_
    refine c_ret ?_
    refine r_then ?_
    refine e_r2 Try.results28 (rv_agg Try.underlying32 rfl I32 rfl (hO12.get (i := 0) rfl) rfl rfl) (rv_tmp (v := .int _ _) rfl) ?_
    obtain ⟨hO14, e14⟩ := hO12.drop1
    obtain ⟨hO15, e15⟩ := hO14.drop1
    rw [← Option.some.inj h]
    exact ⟨aP0, mP0, cP0, aP1, mP1, cP1, rfl, hm0p, hc0p, (hR0p.ext (e3.trans (e6.trans (e11.trans (e14.trans e15))))), hm1p, hc1p, (hR1p.ext (e3.trans (e6.trans (e11.trans (e14.trans e15))))), hO15, (e3.trans (e6.trans (e11.trans (e14.trans e15))))⟩
  replace h := iF h8 h
  refine s_nil ?_
  refine c_next ?_
  refine c_condF rfl ?_
  refine c_skip ?_
  refine c_next ?_
  refine c_seq ?_
  refine c_reg ?_
  refine sv (r_fieldAddr Try.underlying32 rfl I3 (by decide) rfl) ?_
  refine s_load1 (v := .int _ _) Try.underlying3 rfl rfl (cellB (hO7.get (i := 1) rfl) rfl rfl) ?_
  refine sv (r_addI (a := x0.Epoch) (b := 1) rfl rfl) ?_
  refine sv (r_move (v := .int _ _) rfl) ?_
  refine sv (r_fieldAddr Try.underlying32 rfl I3 (by decide) rfl) ?_
  refine s_load1 (v := .int _ _) Try.underlying3 rfl rfl (cellB (hO7.get (i := 1) rfl) rfl rfl) ?_
  refine sv (r_fieldAddr Try.underlying32 rfl I29 (by decide) rfl) ?_
  refine s_load1 (v := .slice _ _ _) Try.underlying29 rfl rfl (cellB (hO7.get (i := 1) rfl) rfl rfl) ?_
  refine sv (r_build (vs := [(0, (.int .i64 ((w64 (x0.Epoch + 1))))), (1, (.int .i64 x1)), (2, (.int .i64 x0.Next)), (3, (.slice aP0 mP0 cP0))]) (cells := #[(.int .i64 ((w64 (x0.Epoch + 1)))), (.int .i64 x1), (.int .i64 x0.Next), (.slice aP0 mP0 cP0), (.slice none 0 0)]) I32 pl32 rfl (by kernel_rfl)) ?_
  refine s_storeN (vs := #[(.int .i64 ((w64 (x0.Epoch + 1)))), (.int .i64 x1), (.int .i64 x0.Next), (.slice aP0 mP0 cP0), (.slice none 0 0)]) I32 rfl rfl rfl hO7 (i := 0) rfl (Nat.le_of_ble_eq_true rfl) (List.all_eq_true.1 rfl) ?_
  intro w16 hO16 e16
  have hO17 : Own w16 ((b4, .cells #[(.int .i64 ((w64 (x0.Epoch + 1)))), (.int .i64 x1), (.int .i64 x0.Next), (.slice aP0 mP0 cP0), (.slice none 0 0)] 32 (0, 0)) :: ((b2, .cells #[(.int .i64 x0.Epoch), (.int .i64 x0.Owner), (.int .i64 x0.Next), (.slice aP0 mP0 cP0), (.slice aP1 mP1 cP1)] 32 (0, 0)) :: L)) := hO16
  refine sv (r_assign (v := .int _ _) rfl) ?_
  refine s_nil ?_
  refine c_next ?_
  refine c_ret ?_
  refine e_r2 Try.results28 (rv_agg Try.underlying32 rfl I32 rfl (hO17.get (i := 0) rfl) rfl rfl) (rv_tmp (v := .int _ _) rfl) ?_
  obtain ⟨hO19, e19⟩ := hO17.drop1
  obtain ⟨hO20, e20⟩ := hO19.drop1
  rw [← Option.some.inj h]
  exact ⟨aP0, mP0, cP0, none, 0, 0, rfl, hm0p, hc0p, (hR0p.ext (e3.trans (e6.trans (e16.trans (e19.trans e20))))), rfl, (Nat.le_refl _), (Rd.nil _ _ _), hO20, (e3.trans (e6.trans (e16.trans (e19.trans e20))))⟩
theorem c_batonref25_Accept (x0 : (List T_batonref25_Device)) (x1 : Int) (x2 : Int) (aP0 : Option Addr) (mP0 cP0 : Nat)  (r : ((List T_batonref25_Device) × Int)) (h : F_batonref25_Accept x0 x1 x2 = some r) (w : World) (L : Hp) (hm0p : x0.length = mP0) (hc0p : mP0 ≤ cP0) (hR0p : Rd w L aP0 (fl e_batonref25_Device x0)) (hO : Own w L) :
    Calls Try.prog 29 #[(.slice aP0 mP0 cP0), (.int .i64 x1), (.int .i64 x2)] w fun en w' => ∃ (ra0 : Option Addr) (rm0 rc0 : Nat), en = .returned (.tuple #[(.slice ra0 rm0 rc0), (.int .i64 r.2)]) ∧ r.1.length = rm0 ∧ rm0 ≤ rc0 ∧ Rd w' L ra0 (fl e_batonref25_Device r.1) ∧ Own w' L ∧ Ext w L w' L := by
  unfold F_batonref25_Accept at h
  refine enter (n := 37) [(.slice aP0 mP0 cP0), (.int .i64 x1), (.int .i64 x2)] Try.func29 rfl rfl (Nat.le_of_ble_eq_true rfl) ?_
  refine c_seq ?_
  refine c_reg ?_
  refine sv (r_assign (v := .slice _ _ _) rfl) ?_
  refine sv (r_assign (v := .int _ _) rfl) ?_
  refine s_nil ?_
  refine c_next ?_
  refine c_seq ?_
  refine c_seq ?_
  refine c_reg ?_
  refine sv (r_move (v := .slice _ _ _) rfl) ?_
  refine sv (r_move (v := .int _ _) rfl) ?_
  obtain ⟨y12, hy12, h⟩ := bindE h
  refine s_call cf51 rfl (c_batonref25_There x0 x1 aP0 mP0 cP0 _ hy12 _ _ hm0p hc0p hR0p hO) ?_
  rintro er12 w4 ⟨rfl, hO4, e4⟩
  refine ⟨_, rfl, ?_⟩
  refine sv (r_assign (v := .int _ _) rfl) ?_
  refine s_nil ?_
  refine c_next ?_
  have hR0p := (hR0p.ext e4)
  obtain ⟨oc5, G5, hG5, h, hr5⟩ := bindG h
  refine c_cutL hO4 (fun Lc f0 g w' => ∃ (xc1_t14 : Bool), (G5 xc1_t14 = some r) ∧ g 0 = (.slice aP0 mP0 cP0) ∧ g 1 = (.int .i64 x1) ∧ g 2 = (.int .i64 x2) ∧ g 8 = (.int .i64 y12) ∧ g 14 = (.bool xc1_t14) ∧ Own w' L ∧ Ext w4 Lc w' L) ?_ ?_
  · skip
    refine c_reg ?_
    refine sv (r_move (v := .int _ _) rfl) ?_
    refine c_neq rfl rfl (fun h14 => ?_) (fun h14 => ?_)
    · replace h := iT h14 h
      refine s_nil ?_
      refine c_next ?_
      rw [← Option.some.inj h] at hr5
      exact ⟨_, rfl, true, hr5, rfl, rfl, rfl, rfl, rfl, hO4, (Ext.refl _ _)⟩
    replace h := iF (Classical.not_not.2 h14) h
    refine s_nil ?_
    refine c_next ?_
    rw [← Option.some.inj h] at hr5
    exact ⟨_, rfl, false, hr5, rfl, rfl, rfl, rfl, rfl, hO4, (Ext.refl _ _)⟩
  intro gg5 w5 hI5
  clear h hr5
  obtain ⟨xc1_t14, h, hsc1_0, hsc1_1, hsc1_2, hsc1_8, hsc1_14, hO5, e5⟩ := hI5
  replace h := hG_ hG5 h; clear hG5
  obtain ⟨qq5, rfl⟩ := fr5 hsc1_0 hsc1_1 hsc1_2 hsc1_8 hsc1_14
  clear hsc1_0 hsc1_1 hsc1_2 hsc1_8 hsc1_14
  rcases Bool.eq_false_or_eq_true (xc1_t14) with hb6 | hb6
  · replace h := iT hb6 h
    refine c_condT (congrArg Value.bool hb6) ?_
    refine c_seq ?_
    refine c_reg ?_
    refine sv (r_move (v := .slice _ _ _) rfl) ?_
    refine sv (r_move (v := .int _ _) rfl) ?_
    refine sv (r_assign (v := .slice _ _ _) rfl) ?_
    refine sv (r_assign (v := .int _ _) rfl) ?_
    refine s_nil ?_
    refine c_next ?_
    refine c_ret ?_
    refine r_then ?_
    refine e_2 (v := .slice _ _ _) (v' := .int _ _) Try.results29 rfl rfl ?_
    rw [← Option.some.inj h]
    exact ⟨aP0, mP0, cP0, rfl, hm0p, hc0p, (hR0p.ext e5), hO5, (e4.trans e5)⟩
  replace h := iF (nt hb6) h
  refine c_condF (congrArg Value.bool hb6) ?_
  refine c_skip ?_
  refine c_next ?_
  refine c_seq ?_
  refine c_reg ?_
  refine sv (r_move (v := .slice _ _ _) rfl) ?_
  refine sv (r_move (v := .slice _ _ _) rfl) ?_
  refine sv (r_move (v := .int _ _) rfl) ?_
  obtain ⟨y20, hy20, h⟩ := bindE h
  refine s_call cf49 rfl (c_batonref25_Find x0 x1 aP0 mP0 cP0 _ hy20 _ _ hm0p hc0p (hR0p.ext e5) hO5) ?_
  rintro er20 w10 ⟨rfl, hO10, e10⟩
  refine ⟨_, rfl, ?_⟩
  obtain ⟨y21, hy21, h⟩ := bindE h
  refine a_idx (e := e_batonref25_Device) (xs := x0) (i := y20) Try.underlying29 I86 rfl rfl (Rd.cs (hR0p.ext (e5.trans e10))) e_batonref25_Device_len (by decide) hm0p hy21 ?_
  intro p21 hp21
  refine s_loadN (cs := [(.int .i64 y21.Id), (.int .i64 y21.Times), (.bool y21.Gone), (.int .i64 y21.Last)]) Try.underlying86 rfl I86 rfl rfl hp21 ?_
  refine s_alloc I86 hO10 ?_
  intro b9 w11 hz9 hl9 hO11 e11
  have hO12 : Own w11 ((b9, .cells #[(.int .i64 0), (.int .i64 0), (.bool false), (.int .i64 0)] 86 (0, 0)) :: L) := hO11
  refine s_storeN (vs := #[(.int .i64 y21.Id), (.int .i64 y21.Times), (.bool y21.Gone), (.int .i64 y21.Last)]) I86 rfl rfl rfl hO12 (i := 0) rfl (Nat.le_of_ble_eq_true rfl) (List.all_eq_true.1 rfl) ?_
  intro w14 hO14 e14
  have hO15 : Own w14 ((b9, .cells #[(.int .i64 y21.Id), (.int .i64 y21.Times), (.bool y21.Gone), (.int .i64 y21.Last)] 86 (0, 0)) :: L) := hO14
  refine s_nil ?_
  refine c_next ?_
  refine c_seq ?_
  refine c_seq ?_
  refine c_reg ?_
  refine sv (r_move (v := .int _ _) rfl) ?_
  refine sv (r_fieldAddr Try.underlying86 rfl I3 (by decide) rfl) ?_
  refine s_load1 (v := .int _ _) Try.underlying3 rfl rfl (cellB (hO15.get (i := 0) rfl) rfl rfl) ?_
  refine c_leq rfl rfl (fun h26 => ?_) (fun h26 => ?_)
  · replace h := iT h26 h
    refine sv (r_move (v := .bool true) rfl) ?_
    refine g_skip 27 (by rfl) rfl (by rfl) ?_
    refine g_skip 27 (by rfl) rfl (by rfl) ?_
    refine sv (r_pickT (v := .bool true) rfl rfl) ?_
    refine s_nil ?_
    refine c_next ?_
    refine c_condT rfl ?_
    refine c_seq ?_
    refine c_reg ?_
    refine sv (r_move (v := .slice _ _ _) rfl) ?_
    refine sv (r_assign (v := .slice _ _ _) rfl) ?_
    refine sv (r_assign (v := .int _ _) rfl) ?_
    refine s_nil ?_
    refine c_next ?_
    refine c_ret ?_
    refine r_then ?_
    refine e_2 (v := .slice _ _ _) (v' := .int _ _) Try.results29 rfl rfl ?_
    obtain ⟨hO17, e17⟩ := hO15.drop1
    rw [← Option.some.inj h]
    exact ⟨aP0, mP0, cP0, rfl, hm0p, hc0p, (hR0p.ext (e5.trans (e10.trans (e11.trans (e14.trans e17))))), hO17, (e4.trans (e5.trans (e10.trans (e11.trans (e14.trans e17)))))⟩
  replace h := iF (Int.not_le.2 h26) h
  refine sv (r_move (v := .bool false) rfl) ?_
  refine g_do 27 (by rfl) rfl ?_
  refine sv (r_move (v := .int _ _) rfl) ?_
  refine g_do 27 (by rfl) rfl ?_
  refine c_gtr rfl rfl (fun h29 => ?_) (fun h29 => ?_)
  · replace h := iT h29 h
    refine sv (r_pickF (v := .bool true) rfl rfl) ?_
    refine s_nil ?_
    refine c_next ?_
    refine c_condT rfl ?_
    refine c_seq ?_
    refine c_reg ?_
    refine sv (r_move (v := .slice _ _ _) rfl) ?_
    refine sv (r_assign (v := .slice _ _ _) rfl) ?_
    refine sv (r_assign (v := .int _ _) rfl) ?_
    refine s_nil ?_
    refine c_next ?_
    refine c_ret ?_
    refine r_then ?_
    refine e_2 (v := .slice _ _ _) (v' := .int _ _) Try.results29 rfl rfl ?_
    obtain ⟨hO18, e18⟩ := hO15.drop1
    rw [← Option.some.inj h]
    exact ⟨aP0, mP0, cP0, rfl, hm0p, hc0p, (hR0p.ext (e5.trans (e10.trans (e11.trans (e14.trans e18))))), hO18, (e4.trans (e5.trans (e10.trans (e11.trans (e14.trans e18)))))⟩
  replace h := iF (Int.not_lt.2 h29) h
  refine sv (r_pickF (v := .bool false) rfl rfl) ?_
  refine s_nil ?_
  refine c_next ?_
  refine c_condF rfl ?_
  refine c_skip ?_
  refine c_next ?_
  refine c_seq ?_
  refine c_reg ?_
  refine sv (r_move (v := .int _ _) rfl) ?_
  refine sv (r_fieldAddr Try.underlying86 rfl I3 (by decide) rfl) ?_
  refine s_store1 (v := (.int .i64 x2)) (o := 3) I3 rfl rfl rfl hO15 (i := 0) rfl rfl rfl ?_
  intro w19 hO19 e19
  have hO20 : Own w19 ((b9, .cells #[(.int .i64 y21.Id), (.int .i64 y21.Times), (.bool y21.Gone), (.int .i64 x2)] 86 (0, 0)) :: L) := hO19
  refine s_nil ?_
  refine c_next ?_
  refine c_seq ?_
  refine c_reg ?_
  refine sv (r_move (v := .slice _ _ _) rfl) ?_
  refine s_loadAll Try.underlying86 rfl I86 rfl (hO20.get (i := 0) rfl) rfl rfl ?_
  obtain ⟨y36, hy36, h⟩ := bindE h
  refine s_call cf50 rfl (c_batonref25_with x0 ({ Id := y21.Id, Times := y21.Times, Gone := y21.Gone, Last := x2 } : T_batonref25_Device) aP0 mP0 cP0 _ hy36 _ _ hm0p hc0p (hR0p.ext (e5.trans (e10.trans (e11.trans (e14.trans e19))))) hO20) ?_
  rintro er36 w22 ⟨a36_0, m36_0, c36_0, S36_0, rfl, hm36_0, hS36_0, hO22, e22⟩
  refine ⟨_, rfl, ?_⟩
  refine sv (r_assign (v := .slice _ _ _) rfl) ?_
  refine sv (r_assign (v := .int _ _) rfl) ?_
  refine s_nil ?_
  refine c_next ?_
  refine c_ret ?_
  refine e_2 (v := .slice _ _ _) (v' := .int _ _) Try.results29 rfl rfl ?_
  have hR23 := (hS36_0.drop hO22).2.2
  obtain ⟨hO23, e23⟩ := hO22.dropS
  obtain ⟨hO24, e24⟩ := hO23.drop1
  rw [← Option.some.inj h]
  exact ⟨a36_0, m36_0, c36_0, rfl, hm36_0, hS36_0.le.1, (hR23.ext e24), hO24, (e4.trans (e5.trans (e10.trans (e11.trans (e14.trans (e19.trans (e22.trans (e23.trans e24))))))))⟩
theorem c_batonref26_Live (x0 : (List T_batonref26_Ticket)) (x1 : Int) (aP0 : Option Addr) (mP0 cP0 : Nat)  (r : (List T_batonref26_Ticket)) (h : F_batonref26_Live x0 x1 = some r) (w : World) (L : Hp) (hm0p : x0.length = mP0) (hc0p : mP0 ≤ cP0) (hR0p : Rd w L aP0 (fl e_batonref26_Ticket x0)) (hO : Own w L) :
    Calls Try.prog 53 #[(.slice aP0 mP0 cP0), (.int .i64 x1)] w fun en w' => ∃ (ra0 : Option Addr) (rm0 rc0 : Nat) (rS0 : Hp), en = .returned (.slice ra0 rm0 rc0) ∧ r.length = rm0 ∧ OwnSl 90 3 ra0 rm0 rc0 (fl e_batonref26_Ticket r) rS0 ∧ Own w' (rS0 ++ L) ∧ Ext w L w' (rS0 ++ L) := by
  unfold F_batonref26_Live at h
  refine enter (n := 28) [(.slice aP0 mP0 cP0), (.int .i64 x1)] Try.func53 rfl rfl (Nat.le_of_ble_eq_true rfl) ?_
  refine c_seq ?_
  refine c_reg ?_
  refine sv (r_assign (v := .slice _ _ _) rfl) ?_
  refine s_nil ?_
  refine c_next ?_
  refine c_seq ?_
  refine c_reg ?_
  refine sv (r_assign (v := .slice _ _ _) rfl) ?_
  refine s_nil ?_
  refine c_next ?_
  refine c_seq ?_
  refine c_seq ?_
  refine c_reg ?_
  refine sv (r_assign (v := .int _ _) rfl) ?_
  refine s_nil ?_
  refine c_next ?_
  refine c_block ?_
  obtain ⟨kl7, hkl7⟩ := loop_iff.1 h
  clear h
  refine c_loopL hO (fun Lc f0 m g wl => ∃ (xl1_t5 : (List T_batonref26_Ticket)) (xl1_t6 : Int) (al1_0 : Option Addr) (ml1_0 cl1_0 : Nat) (Sl1_0 : Hp), (iterK (batonref26_Live_l1 x0 x1) m (xl1_t5, xl1_t6) = some r) ∧ g 0 = (.slice aP0 mP0 cP0) ∧ g 1 = (.int .i64 x1) ∧ g 5 = (.slice al1_0 ml1_0 cl1_0) ∧ g 6 = (.int .i64 xl1_t6) ∧ xl1_t5.length = ml1_0 ∧ OwnSl 90 3 al1_0 ml1_0 cl1_0 (fl e_batonref26_Ticket xl1_t5) Sl1_0 ∧ Own wl (Sl1_0 ++ L) ∧ Ext w Lc wl (Sl1_0 ++ L)) kl7 ?_ ?_
  · skip
    exact ⟨[], 0, none, 0, 0, [], hkl7, rfl, rfl, rfl, rfl, rfl, (OwnSl.nil _ _), hO, (Ext.refl _ _)⟩
  clear hkl7
  intro mm7 gg7 w7 hI7
  obtain ⟨xl1_t5, xl1_t6, al1_0, ml1_0, cl1_0, Sl1_0, hkl7, hsl1_0, hsl1_1, hsl1_5, hsl1_6, hml1_0, hSl1_0, hO7, e7⟩ := hI7
  obtain ⟨kl7, yl7, rfl, h, hyl7⟩ := iterE hkl7
  clear hkl7
  obtain ⟨qq7, rfl⟩ := fr4 hsl1_0 hsl1_1 hsl1_5 hsl1_6
  clear hsl1_0 hsl1_1 hsl1_5 hsl1_6
  refine c_seq ?_
  have hR0p := (hR0p.ext e7)
  obtain ⟨oc8, G8, hG8, h, hr8⟩ := bindG h
  refine c_cutL hO7 (fun Lc f0 g w' => ∃ (xc2_t10 : Bool), (G8 xc2_t10 = some yl7) ∧ g 0 = (.slice aP0 mP0 cP0) ∧ g 1 = (.int .i64 x1) ∧ g 5 = (.slice al1_0 ml1_0 cl1_0) ∧ g 6 = (.int .i64 xl1_t6) ∧ g 10 = (.bool xc2_t10) ∧ Own w' (Sl1_0 ++ L) ∧ Ext w7 Lc w' (Sl1_0 ++ L)) ?_ ?_
  · skip
    refine c_reg ?_
    refine sv (r_move (v := .int _ _) rfl) ?_
    refine sv (r_move (v := .slice _ _ _) rfl) ?_
    refine sv (r_lenL (xs := x0) Try.underlying30 rfl hm0p) ?_
    refine c_lss rfl rfl (fun h10 => ?_) (fun h10 => ?_)
    · replace h := iT h10 h
      refine s_nil ?_
      refine c_next ?_
      rw [← Option.some.inj h] at hr8
      exact ⟨_, rfl, true, hr8, rfl, rfl, rfl, rfl, rfl, hO7, (Ext.refl _ _)⟩
    replace h := iF (Int.not_lt.2 h10) h
    refine s_nil ?_
    refine c_next ?_
    rw [← Option.some.inj h] at hr8
    exact ⟨_, rfl, false, hr8, rfl, rfl, rfl, rfl, rfl, hO7, (Ext.refl _ _)⟩
  intro gg8 w8 hI8
  clear h hr8
  obtain ⟨xc2_t10, h, hsc2_0, hsc2_1, hsc2_5, hsc2_6, hsc2_10, hO8, e8⟩ := hI8
  replace h := hG_ hG8 h; clear hG8
  obtain ⟨qq8, rfl⟩ := fr5 hsc2_0 hsc2_1 hsc2_5 hsc2_6 hsc2_10
  clear hsc2_0 hsc2_1 hsc2_5 hsc2_6 hsc2_10
  rcases Bool.eq_false_or_eq_true (xc2_t10) with hb9 | hb9
  · replace h := iT hb9 h
    refine c_condT (congrArg Value.bool hb9) ?_
    refine c_skip ?_
    refine c_next ?_
    refine c_seq ?_
    refine c_block ?_
    refine c_seq ?_
    refine c_reg ?_
    refine sv (r_move (v := .slice _ _ _) rfl) ?_
    refine sv (r_move (v := .int _ _) rfl) ?_
    obtain ⟨y15, hy15, h⟩ := bindE h
    refine a_idx (e := e_batonref26_Ticket) (xs := x0) (i := xl1_t6) Try.underlying30 I90 rfl rfl (Rd.cs (hR0p.ext e8)) e_batonref26_Ticket_len (by decide) hm0p hy15 ?_
    intro p15 hp15
    refine sv (r_fieldAddr Try.underlying90 rfl I3 (by decide) rfl) ?_
    refine s_load1 (v := .int _ _) Try.underlying3 rfl rfl (cellP hp15 2 rfl) ?_
    refine sv (r_move (v := .int _ _) rfl) ?_
    refine c_geq rfl rfl (fun h19 => ?_) (fun h19 => ?_)
    · replace h := iT h19 h
      refine s_nil ?_
      refine c_next ?_
      refine c_condT rfl ?_
      refine c_reg ?_
      refine sv (r_move (v := .slice _ _ _) rfl) ?_
      refine sv (r_move (v := .slice _ _ _) rfl) ?_
      refine sv (r_move (v := .int _ _) rfl) ?_
      obtain ⟨y23, hy23, h⟩ := bindE h
      refine a_idx (e := e_batonref26_Ticket) (xs := x0) (i := xl1_t6) Try.underlying30 I90 rfl rfl (Rd.cs (hR0p.ext e8)) e_batonref26_Ticket_len (by decide) hm0p hy23 ?_
      intro p23 hp23
      refine s_loadN (cs := [(.int .i64 y23.No), (.int .i64 y23.For), (.int .i64 y23.Until)]) Try.underlying90 rfl I90 rfl rfl hp23 ?_
      refine a_lit (en := e_batonref26_Ticket) (xs := [y23]) (vs := [(.agg #[(.int .i64 y23.No), (.int .i64 y23.For), (.int .i64 y23.Until)])]) Try.underlying30 I90 hO8 rfl rfl (by simp [Value.cells]) (by decide) rfl e_batonref26_Ticket_len rfl (by decide) ?_
      intro a25 m25 c25 S25 w10 hm25 hS25 hO10 e10
      have hR12 := (hS25.drop hO10).2.2
      obtain ⟨hO12, e12⟩ := hO10.dropS
      obtain ⟨y26, hy26, h⟩ := bindE h
      refine a_append (e := e_batonref26_Ticket) (xs := xl1_t5) (ys := [y23]) Try.underlying30 I90 rfl (by decide) (by decide) rfl rfl hSl1_0 hO12 (Rd.cs hR12) e_batonref26_Ticket_len e_batonref26_Ticket1 hml1_0 hm25 hy26 ?_
      intro a26 m26 c26 S26a w11 hm26 hS26a hO11 e11
      refine sv (r_assign (v := .slice _ _ _) rfl) ?_
      refine s_nil ?_
      refine x_norm ?_
      refine c_next ?_
      refine c_reg ?_
      refine sv (r_move (v := .int _ _) rfl) ?_
      refine sv (r_addI (a := xl1_t6) (b := 1) rfl rfl) ?_
      refine sv (r_assign (v := .int _ _) rfl) ?_
      refine s_nil ?_
      refine l_end (m' := kl7) (Nat.lt_succ_self _) ?_
      rw [← Option.some.inj h] at hyl7
      exact ⟨y26, (w64 (xl1_t6 + 1)), a26, m26, c26, S26a, hyl7, rfl, rfl, rfl, rfl, hm26, hS26a, hO11, (e7.trans (e8.trans (e10.trans (e12.trans e11))))⟩
    replace h := iF (Int.not_le.2 h19) h
    refine s_nil ?_
    refine c_next ?_
    refine c_condF rfl ?_
    refine c_skip ?_
    refine x_norm ?_
    refine c_next ?_
    refine c_reg ?_
    refine sv (r_move (v := .int _ _) rfl) ?_
    refine sv (r_addI (a := xl1_t6) (b := 1) rfl rfl) ?_
    refine sv (r_assign (v := .int _ _) rfl) ?_
    refine s_nil ?_
    refine l_end (m' := kl7) (Nat.lt_succ_self _) ?_
    rw [← Option.some.inj h] at hyl7
    exact ⟨xl1_t5, (w64 (xl1_t6 + 1)), al1_0, ml1_0, cl1_0, Sl1_0, hyl7, rfl, rfl, rfl, rfl, hml1_0, hSl1_0, hO8, (e7.trans e8)⟩
  replace h := iF (nt hb9) h
  refine c_condF (congrArg Value.bool hb9) ?_
  refine c_exit ?_
  refine x_then ?_
  refine x_then ?_
  refine x_same ?_
  replace h := crossE h hyl7
  refine c_next ?_
  refine c_seq ?_
  refine c_reg ?_
  refine sv (r_move (v := .slice _ _ _) rfl) ?_
  refine sv (r_assign (v := .slice _ _ _) rfl) ?_
  refine s_nil ?_
  refine c_next ?_
  refine c_ret ?_
  refine e_1 (v := .slice _ _ _) Try.results53 rfl ?_
  rw [← Option.some.inj h]
  exact ⟨al1_0, ml1_0, cl1_0, Sl1_0, rfl, hml1_0, hSl1_0, hO8, (e7.trans e8)⟩
theorem c_batonref26_One (x0 : T_batonref26_Ticket)   (r : Bool) (h : F_batonref26_One x0 = some r) (w : World) (L : Hp)  (hO : Own w L) :
    Calls Try.prog 72 #[(.agg #[(.int .i64 x0.No), (.int .i64 x0.For), (.int .i64 x0.Until)])] w fun en w' => en = .returned (.bool r) ∧ Own w' L ∧ Ext w L w' L := by
  unfold F_batonref26_One at h
  refine enter (n := 31) [(.agg #[(.int .i64 x0.No), (.int .i64 x0.For), (.int .i64 x0.Until)])] Try.func72 rfl rfl (Nat.le_of_ble_eq_true rfl) ?_
  refine c_seq ?_
  refine c_reg ?_
  refine s_box (v := (.agg #[(.int .i64 x0.No), (.int .i64 x0.For), (.int .i64 x0.Until)])) rfl hO ?_
  intro b1 w2 hz1 hl1 hO2 e2
  have hO3 : Own w2 ((b1, .cells #[(.int .i64 x0.No), (.int .i64 x0.For), (.int .i64 x0.Until)] 90 (0, 0)) :: L) := hO2
  refine sv (r_assign (v := .bool false) rfl) ?_
  refine s_nil ?_
  refine c_next ?_
  refine c_seq ?_
  refine c_reg ?_
  refine sv (r_fieldAddr Try.underlying90 rfl I3 (by decide) rfl) ?_
  refine s_load1 (v := .int _ _) Try.underlying3 rfl rfl (cellB (hO3.get (i := 0) rfl) rfl rfl) ?_
  refine c_geq rfl rfl (fun h5 => ?_) (fun h5 => ?_)
  · replace h := iT h5 h
    refine sv (r_move (v := .bool true) rfl) ?_
    refine g_do 6 (by rfl) rfl ?_
    refine sv (r_fieldAddr Try.underlying90 rfl I3 (by decide) rfl) ?_
    refine g_do 6 (by rfl) rfl ?_
    refine s_load1 (v := .int _ _) Try.underlying3 rfl rfl (cellB (hO3.get (i := 0) rfl) rfl rfl) ?_
    refine g_do 6 (by rfl) rfl ?_
    refine c_leq rfl rfl (fun h9 => ?_) (fun h9 => ?_)
    · replace h := iT h9 h
      refine sv (r_pickT (v := .bool true) rfl rfl) ?_
      refine sv (r_move (v := .bool true) rfl) ?_
      refine g_do 11 (by rfl) rfl ?_
      refine sv (r_fieldAddr Try.underlying90 rfl I3 (by decide) rfl) ?_
      refine g_do 11 (by rfl) rfl ?_
      refine s_load1 (v := .int _ _) Try.underlying3 rfl rfl (cellB (hO3.get (i := 0) rfl) rfl rfl) ?_
      refine g_do 11 (by rfl) rfl ?_
      refine c_geq rfl rfl (fun h14 => ?_) (fun h14 => ?_)
      · replace h := iT h14 h
        refine sv (r_pickT (v := .bool true) rfl rfl) ?_
        refine sv (r_move (v := .bool true) rfl) ?_
        refine g_do 16 (by rfl) rfl ?_
        refine sv (r_fieldAddr Try.underlying90 rfl I3 (by decide) rfl) ?_
        refine g_do 16 (by rfl) rfl ?_
        refine s_load1 (v := .int _ _) Try.underlying3 rfl rfl (cellB (hO3.get (i := 0) rfl) rfl rfl) ?_
        refine g_do 16 (by rfl) rfl ?_
        refine c_leq rfl rfl (fun h19 => ?_) (fun h19 => ?_)
        · replace h := iT h19 h
          refine sv (r_pickT (v := .bool true) rfl rfl) ?_
          refine sv (r_move (v := .bool true) rfl) ?_
          refine g_do 21 (by rfl) rfl ?_
          refine sv (r_fieldAddr Try.underlying90 rfl I3 (by decide) rfl) ?_
          refine g_do 21 (by rfl) rfl ?_
          refine s_load1 (v := .int _ _) Try.underlying3 rfl rfl (cellB (hO3.get (i := 0) rfl) rfl rfl) ?_
          refine g_do 21 (by rfl) rfl ?_
          refine c_geq rfl rfl (fun h24 => ?_) (fun h24 => ?_)
          · replace h := iT h24 h
            refine sv (r_pickT (v := .bool true) rfl rfl) ?_
            refine sv (r_move (v := .bool true) rfl) ?_
            refine g_do 26 (by rfl) rfl ?_
            refine sv (r_fieldAddr Try.underlying90 rfl I3 (by decide) rfl) ?_
            refine g_do 26 (by rfl) rfl ?_
            refine s_load1 (v := .int _ _) Try.underlying3 rfl rfl (cellB (hO3.get (i := 0) rfl) rfl rfl) ?_
            refine g_do 26 (by rfl) rfl ?_
            refine c_leq rfl rfl (fun h29 => ?_) (fun h29 => ?_)
            · replace h := iT h29 h
              refine sv (r_pickT (v := .bool true) rfl rfl) ?_
              refine sv (r_assign (v := .bool true) rfl) ?_
              refine s_nil ?_
              refine c_next ?_
              refine c_ret ?_
              refine e_1 (v := .bool true) Try.results72 rfl ?_
              obtain ⟨hO5, e5⟩ := hO3.drop1
              rw [← Option.some.inj h]
              exact ⟨rfl, hO5, (e2.trans e5)⟩
            replace h := iF (Int.not_le.2 h29) h
            refine sv (r_pickT (v := .bool false) rfl rfl) ?_
            refine sv (r_assign (v := .bool false) rfl) ?_
            refine s_nil ?_
            refine c_next ?_
            refine c_ret ?_
            refine e_1 (v := .bool false) Try.results72 rfl ?_
            obtain ⟨hO6, e6⟩ := hO3.drop1
            rw [← Option.some.inj h]
            exact ⟨rfl, hO6, (e2.trans e6)⟩
          replace h := iF (Int.not_le.2 h24) h
          refine sv (r_pickT (v := .bool false) rfl rfl) ?_
          refine sv (r_move (v := .bool false) rfl) ?_
          refine g_skip 26 (by rfl) rfl (by rfl) ?_
          refine g_skip 26 (by rfl) rfl (by rfl) ?_
          refine g_skip 26 (by rfl) rfl (by rfl) ?_
          refine sv (r_pickF (v := .bool false) rfl rfl) ?_
          refine sv (r_assign (v := .bool false) rfl) ?_
          refine s_nil ?_
          refine c_next ?_
          refine c_ret ?_
          refine e_1 (v := .bool false) Try.results72 rfl ?_
          obtain ⟨hO7, e7⟩ := hO3.drop1
          rw [← Option.some.inj h]
          exact ⟨rfl, hO7, (e2.trans e7)⟩
        replace h := iF (Int.not_le.2 h19) h
        refine sv (r_pickT (v := .bool false) rfl rfl) ?_
        refine sv (r_move (v := .bool false) rfl) ?_
        refine g_skip 21 (by rfl) rfl (by rfl) ?_
        refine g_skip 21 (by rfl) rfl (by rfl) ?_
        refine g_skip 21 (by rfl) rfl (by rfl) ?_
        refine sv (r_pickF (v := .bool false) rfl rfl) ?_
        refine sv (r_move (v := .bool false) rfl) ?_
        refine g_skip 26 (by rfl) rfl (by rfl) ?_
        refine g_skip 26 (by rfl) rfl (by rfl) ?_
        refine g_skip 26 (by rfl) rfl (by rfl) ?_
        refine sv (r_pickF (v := .bool false) rfl rfl) ?_
        refine sv (r_assign (v := .bool false) rfl) ?_
        refine s_nil ?_
        refine c_next ?_
        refine c_ret ?_
        refine e_1 (v := .bool false) Try.results72 rfl ?_
        obtain ⟨hO8, e8⟩ := hO3.drop1
        rw [← Option.some.inj h]
        exact ⟨rfl, hO8, (e2.trans e8)⟩
      replace h := iF (Int.not_le.2 h14) h
      refine sv (r_pickT (v := .bool false) rfl rfl) ?_
      refine sv (r_move (v := .bool false) rfl) ?_
      refine g_skip 16 (by rfl) rfl (by rfl) ?_
      refine g_skip 16 (by rfl) rfl (by rfl) ?_
      refine g_skip 16 (by rfl) rfl (by rfl) ?_
      refine sv (r_pickF (v := .bool false) rfl rfl) ?_
      refine sv (r_move (v := .bool false) rfl) ?_
      refine g_skip 21 (by rfl) rfl (by rfl) ?_
      refine g_skip 21 (by rfl) rfl (by rfl) ?_
      refine g_skip 21 (by rfl) rfl (by rfl) ?_
      refine sv (r_pickF (v := .bool false) rfl rfl) ?_
      refine sv (r_move (v := .bool false) rfl) ?_
      refine g_skip 26 (by rfl) rfl (by rfl) ?_
      refine g_skip 26 (by rfl) rfl (by rfl) ?_
      refine g_skip 26 (by rfl) rfl (by rfl) ?_
      refine sv (r_pickF (v := .bool false) rfl rfl) ?_
      refine sv (r_assign (v := .bool false) rfl) ?_
      refine s_nil ?_
      refine c_next ?_
      refine c_ret ?_
      refine e_1 (v := .bool false) Try.results72 rfl ?_
      obtain ⟨hO9, e9⟩ := hO3.drop1
      rw [← Option.some.inj h]
      exact ⟨rfl, hO9, (e2.trans e9)⟩
    replace h := iF (Int.not_le.2 h9) h
    refine sv (r_pickT (v := .bool false) rfl rfl) ?_
    refine sv (r_move (v := .bool false) rfl) ?_
    refine g_skip 11 (by rfl) rfl (by rfl) ?_
    refine g_skip 11 (by rfl) rfl (by rfl) ?_
    refine g_skip 11 (by rfl) rfl (by rfl) ?_
    refine sv (r_pickF (v := .bool false) rfl rfl) ?_
    refine sv (r_move (v := .bool false) rfl) ?_
    refine g_skip 16 (by rfl) rfl (by rfl) ?_
    refine g_skip 16 (by rfl) rfl (by rfl) ?_
    refine g_skip 16 (by rfl) rfl (by rfl) ?_
    refine sv (r_pickF (v := .bool false) rfl rfl) ?_
    refine sv (r_move (v := .bool false) rfl) ?_
    refine g_skip 21 (by rfl) rfl (by rfl) ?_
    refine g_skip 21 (by rfl) rfl (by rfl) ?_
    refine g_skip 21 (by rfl) rfl (by rfl) ?_
    refine sv (r_pickF (v := .bool false) rfl rfl) ?_
    refine sv (r_move (v := .bool false) rfl) ?_
    refine g_skip 26 (by rfl) rfl (by rfl) ?_
    refine g_skip 26 (by rfl) rfl (by rfl) ?_
    refine g_skip 26 (by rfl) rfl (by rfl) ?_
    refine sv (r_pickF (v := .bool false) rfl rfl) ?_
    refine sv (r_assign (v := .bool false) rfl) ?_
    refine s_nil ?_
    refine c_next ?_
    refine c_ret ?_
    refine e_1 (v := .bool false) Try.results72 rfl ?_
    obtain ⟨hO10, e10⟩ := hO3.drop1
    rw [← Option.some.inj h]
    exact ⟨rfl, hO10, (e2.trans e10)⟩
  replace h := iF (Int.not_le.2 h5) h
  refine sv (r_move (v := .bool false) rfl) ?_
  refine g_skip 6 (by rfl) rfl (by rfl) ?_
  refine g_skip 6 (by rfl) rfl (by rfl) ?_
  refine g_skip 6 (by rfl) rfl (by rfl) ?_
  refine sv (r_pickF (v := .bool false) rfl rfl) ?_
  refine sv (r_move (v := .bool false) rfl) ?_
  refine g_skip 11 (by rfl) rfl (by rfl) ?_
  refine g_skip 11 (by rfl) rfl (by rfl) ?_
  refine g_skip 11 (by rfl) rfl (by rfl) ?_
  refine sv (r_pickF (v := .bool false) rfl rfl) ?_
  refine sv (r_move (v := .bool false) rfl) ?_
  refine g_skip 16 (by rfl) rfl (by rfl) ?_
  refine g_skip 16 (by rfl) rfl (by rfl) ?_
  refine g_skip 16 (by rfl) rfl (by rfl) ?_
  refine sv (r_pickF (v := .bool false) rfl rfl) ?_
  refine sv (r_move (v := .bool false) rfl) ?_
  refine g_skip 21 (by rfl) rfl (by rfl) ?_
  refine g_skip 21 (by rfl) rfl (by rfl) ?_
  refine g_skip 21 (by rfl) rfl (by rfl) ?_
  refine sv (r_pickF (v := .bool false) rfl rfl) ?_
  refine sv (r_move (v := .bool false) rfl) ?_
  refine g_skip 26 (by rfl) rfl (by rfl) ?_
  refine g_skip 26 (by rfl) rfl (by rfl) ?_
  refine g_skip 26 (by rfl) rfl (by rfl) ?_
  refine sv (r_pickF (v := .bool false) rfl rfl) ?_
  refine sv (r_assign (v := .bool false) rfl) ?_
  refine s_nil ?_
  refine c_next ?_
  refine c_ret ?_
  refine e_1 (v := .bool false) Try.results72 rfl ?_
  obtain ⟨hO11, e11⟩ := hO3.drop1
  rw [← Option.some.inj h]
  exact ⟨rfl, hO11, (e2.trans e11)⟩
theorem c_batonref26_Issue (x0 : (List T_batonref26_Ticket)) (x1 : T_batonref26_Ticket) (aP0 : Option Addr) (mP0 cP0 : Nat)  (r : ((List T_batonref26_Ticket) × Int)) (h : F_batonref26_Issue x0 x1 = some r) (w : World) (L : Hp) (hm0p : x0.length = mP0) (hc0p : mP0 ≤ cP0) (hR0p : Rd w L aP0 (fl e_batonref26_Ticket x0)) (hO : Own w L) :
    Calls Try.prog 52 #[(.slice aP0 mP0 cP0), (.agg #[(.int .i64 x1.No), (.int .i64 x1.For), (.int .i64 x1.Until)])] w fun en w' => ∃ (ra0 : Option Addr) (rm0 rc0 : Nat), en = .returned (.tuple #[(.slice ra0 rm0 rc0), (.int .i64 r.2)]) ∧ r.1.length = rm0 ∧ rm0 ≤ rc0 ∧ Rd w' L ra0 (fl e_batonref26_Ticket r.1) ∧ Own w' L ∧ Ext w L w' L := by
  unfold F_batonref26_Issue at h
  refine enter (n := 36) [(.slice aP0 mP0 cP0), (.agg #[(.int .i64 x1.No), (.int .i64 x1.For), (.int .i64 x1.Until)])] Try.func52 rfl rfl (Nat.le_of_ble_eq_true rfl) ?_
  refine c_seq ?_
  refine c_reg ?_
  refine s_box (v := (.agg #[(.int .i64 x1.No), (.int .i64 x1.For), (.int .i64 x1.Until)])) rfl hO ?_
  intro b3 w2 hz3 hl3 hO2 e2
  have hO3 : Own w2 ((b3, .cells #[(.int .i64 x1.No), (.int .i64 x1.For), (.int .i64 x1.Until)] 90 (0, 0)) :: L) := hO2
  refine sv (r_assign (v := .slice _ _ _) rfl) ?_
  refine sv (r_assign (v := .int _ _) rfl) ?_
  refine s_nil ?_
  refine c_next ?_
  refine c_seq ?_
  refine c_seq ?_
  refine c_reg ?_
  refine s_loadAll Try.underlying90 rfl I90 rfl (hO3.get (i := 0) rfl) rfl rfl ?_
  obtain ⟨y8, hy8, h⟩ := bindE h
  refine s_call cf72 rfl (c_batonref26_One x1 _ hy8 _ _ hO3) ?_
  rintro er8 w8 ⟨rfl, hO8, e8⟩
  refine ⟨_, rfl, ?_⟩
  refine sv (r_not (b := y8) rfl) ?_
  refine s_nil ?_
  refine c_next ?_
  rcases Bool.eq_false_or_eq_true (y8) with hb9 | hb9
  · replace h := iT hb9 h
    refine c_condF (congrArg Value.bool (nnt hb9)) ?_
    refine c_skip ?_
    refine c_next ?_
    refine c_seq ?_
    refine c_seq ?_
    refine c_reg ?_
    refine sv (r_assign (v := .int _ _) rfl) ?_
    refine s_nil ?_
    refine c_next ?_
    refine c_block ?_
    have hR0p := (hR0p.ext (e2.trans e8))
    obtain ⟨kl31, hkl31⟩ := loop_iff.1 h
    clear h
    refine c_loopL hO8 (fun Lc f0 m g wl => ∃ (xl1_t6 : Int), (iterK (batonref26_Issue_l1 x0 x1) m xl1_t6 = some r) ∧ g 0 = (.slice aP0 mP0 cP0) ∧ g 3 = (.pointer (some ⟨b3, 0, none⟩)) ∧ g 6 = (.int .i64 xl1_t6) ∧ Own wl ((b3, .cells #[(.int .i64 x1.No), (.int .i64 x1.For), (.int .i64 x1.Until)] 90 (0, 0)) :: L) ∧ Ext w8 Lc wl ((b3, .cells #[(.int .i64 x1.No), (.int .i64 x1.For), (.int .i64 x1.Until)] 90 (0, 0)) :: L)) kl31 ?_ ?_
    · skip
      exact ⟨0, hkl31, rfl, rfl, rfl, hO8, (Ext.refl _ _)⟩
    clear hkl31
    intro mm31 gg31 w31 hI31
    obtain ⟨xl1_t6, hkl31, hsl1_0, hsl1_3, hsl1_6, hO31, e31⟩ := hI31
    obtain ⟨kl31, yl31, rfl, h, hyl31⟩ := iterE hkl31
    clear hkl31
    obtain ⟨qq31, rfl⟩ := fr3 hsl1_0 hsl1_3 hsl1_6
    clear hsl1_0 hsl1_3 hsl1_6
    refine c_seq ?_
    have hR0p := (hR0p.ext e31)
    obtain ⟨oc32, G32, hG32, h, hr32⟩ := bindG h
    refine c_cutL hO31 (fun Lc f0 g w' => ∃ (xc2_t14 : Bool), (G32 xc2_t14 = some yl31) ∧ g 0 = (.slice aP0 mP0 cP0) ∧ g 3 = (.pointer (some ⟨b3, 0, none⟩)) ∧ g 6 = (.int .i64 xl1_t6) ∧ g 14 = (.bool xc2_t14) ∧ Own w' ((b3, .cells #[(.int .i64 x1.No), (.int .i64 x1.For), (.int .i64 x1.Until)] 90 (0, 0)) :: L) ∧ Ext w31 Lc w' ((b3, .cells #[(.int .i64 x1.No), (.int .i64 x1.For), (.int .i64 x1.Until)] 90 (0, 0)) :: L)) ?_ ?_
    · skip
      refine c_reg ?_
      refine sv (r_move (v := .int _ _) rfl) ?_
      refine sv (r_move (v := .slice _ _ _) rfl) ?_
      refine sv (r_lenL (xs := x0) Try.underlying30 rfl hm0p) ?_
      refine c_lss rfl rfl (fun h14 => ?_) (fun h14 => ?_)
      · replace h := iT h14 h
        refine s_nil ?_
        refine c_next ?_
        rw [← Option.some.inj h] at hr32
        exact ⟨_, rfl, true, hr32, rfl, rfl, rfl, rfl, hO31, (Ext.refl _ _)⟩
      replace h := iF (Int.not_lt.2 h14) h
      refine s_nil ?_
      refine c_next ?_
      rw [← Option.some.inj h] at hr32
      exact ⟨_, rfl, false, hr32, rfl, rfl, rfl, rfl, hO31, (Ext.refl _ _)⟩
    intro gg32 w32 hI32
    clear h hr32
    obtain ⟨xc2_t14, h, hsc2_0, hsc2_3, hsc2_6, hsc2_14, hO32, e32⟩ := hI32
    replace h := hG_ hG32 h; clear hG32
    obtain ⟨qq32, rfl⟩ := fr4 hsc2_0 hsc2_3 hsc2_6 hsc2_14
    clear hsc2_0 hsc2_3 hsc2_6 hsc2_14
    rcases Bool.eq_false_or_eq_true (xc2_t14) with hb33 | hb33
    · replace h := iT hb33 h
      refine c_condT (congrArg Value.bool hb33) ?_
      refine c_skip ?_
      refine c_next ?_
      refine c_seq ?_
      refine c_block ?_
      have hR0p := (hR0p.ext e32)
      obtain ⟨oc40, G40, hG40, h, hr40⟩ := bindG h
      refine c_cutL hO32 (fun Lc f0 g w' => ∃ (xc3_t24 : Bool), (G40 xc3_t24 = some yl31) ∧ g 0 = (.slice aP0 mP0 cP0) ∧ g 3 = (.pointer (some ⟨b3, 0, none⟩)) ∧ g 6 = (.int .i64 xl1_t6) ∧ g 24 = (.bool xc3_t24) ∧ Own w' ((b3, .cells #[(.int .i64 x1.No), (.int .i64 x1.For), (.int .i64 x1.Until)] 90 (0, 0)) :: L) ∧ Ext w32 Lc w' ((b3, .cells #[(.int .i64 x1.No), (.int .i64 x1.For), (.int .i64 x1.Until)] 90 (0, 0)) :: L)) ?_ ?_
      · skip
        refine d_startL hO32 hO32 8 (by kernel_rfl) (pk_then (pk_block (pk_then (pk_then (pk_block (pk_then pk_body)))))) ?_
        intro hP42 wd42 hK42 hO41 e41
        refine dT (i := 0) (listed' := #[I_,O_,O_,O_,O_,O_,O_,O_]) rfl hP42 hK42 (fun wS hS => (r_move (v := .slice _ _ _) rfl)) ?_
        refine dT (i := 1) (listed' := #[I_,I_,O_,O_,O_,O_,O_,O_]) rfl hP42 hK42 (fun wS hS => (r_move (v := .int _ _) rfl)) ?_
        obtain ⟨y19, hy19, h⟩ := bindE h
        obtain ⟨ad19, had19, hk19⟩ := ix_known (e := e_batonref26_Ticket) (Rd.cs hR0p) e_batonref26_Ticket_len (by decide) hy19
        have hx19 : Value.slice aP0 mP0 cP0 = .slice (some ad19) mP0 cP0 := by rw [had19]
        refine dT (i := 2) (listed' := #[I_,I_,I_,O_,O_,O_,O_,O_]) rfl hP42 hK42 (fun wS hS => (ra_idx (xs := x0) (i := xl1_t6) Try.underlying30 I90 (by exact hx19) (by rfl) hm0p hy19)) ?_
        refine dT (i := 3) (listed' := #[I_,I_,I_,I_,O_,O_,O_,O_]) rfl hP42 hK42 (fun wS hS => (r_fieldAddr Try.underlying90 rfl I3 (by decide) rfl)) ?_
        refine dT (i := 4) (listed' := #[I_,I_,I_,I_,I_,O_,O_,O_]) rfl hP42 hK42 (fun wS hS => (r_load1 (v := .int _ _) Try.underlying3 rfl rfl (cellP (hk19 _ (hR0p.kept hS)) 0 rfl))) ?_
        refine dT (i := 5) (listed' := #[I_,I_,I_,I_,I_,I_,O_,O_]) rfl hP42 hK42 (fun wS hS => (r_fieldAddr Try.underlying90 rfl I3 (by decide) rfl)) ?_
        refine dT (i := 6) (listed' := #[I_,I_,I_,I_,I_,I_,I_,O_]) rfl hP42 hK42 (fun wS hS => (r_load1 (v := .int _ _) Try.underlying3 rfl rfl (cellB (hS.own.get (i := 0) rfl) rfl rfl))) ?_
        refine dt_geq (i := 7) (listed' := #[I_,I_,I_,I_,I_,I_,I_,I_]) (by rfl) (by kernel_rfl) (by rfl) hP42.u rfl hK42 rfl rfl (fun h24 => ?_) (fun h24 => ?_)
        · replace h := iT h24 h
          refine d_done (by kernel_rfl) ?_
          refine c_next ?_
          rw [← Option.some.inj h] at hr40
          exact ⟨_, rfl, true, hr40, rfl, rfl, rfl, rfl, hO41, e41⟩
        replace h := iF (Int.not_le.2 h24) h
        refine d_done (by kernel_rfl) ?_
        refine c_next ?_
        rw [← Option.some.inj h] at hr40
        exact ⟨_, rfl, false, hr40, rfl, rfl, rfl, rfl, hO41, e41⟩
      intro gg40 w40 hI40
      clear h hr40
      obtain ⟨xc3_t24, h, hsc3_0, hsc3_3, hsc3_6, hsc3_24, hO40, e40⟩ := hI40
      replace h := hG_ hG40 h; clear hG40
      obtain ⟨qq40, rfl⟩ := fr4 hsc3_0 hsc3_3 hsc3_6 hsc3_24
      clear hsc3_0 hsc3_3 hsc3_6 hsc3_24
      rcases Bool.eq_false_or_eq_true (xc3_t24) with hb43 | hb43
      · replace h := iT hb43 h
        refine c_condT (congrArg Value.bool hb43) ?_
        refine c_seq ?_
        refine c_reg ?_
        refine sv (r_move (v := .slice _ _ _) rfl) ?_
        refine sv (r_assign (v := .slice _ _ _) rfl) ?_
        refine sv (r_assign (v := .int _ _) rfl) ?_
        refine s_nil ?_
        refine c_next ?_
        refine c_ret ?_
        refine r_block ?_
        refine r_then ?_
        refine r_then ?_
        refine r_block ?_
        refine r_then ?_
        replace h := crossE h hyl31
        refine e_2 (v := .slice _ _ _) (v' := .int _ _) Try.results52 rfl rfl ?_
        obtain ⟨hO44, e44⟩ := hO40.drop1
        rw [← Option.some.inj h]
        exact ⟨aP0, mP0, cP0, rfl, hm0p, hc0p, (hR0p.ext (e40.trans e44)), hO44, (e2.trans (e8.trans (e31.trans (e32.trans (e40.trans e44)))))⟩
      replace h := iF (nt hb43) h
      refine c_condF (congrArg Value.bool hb43) ?_
      refine c_skip ?_
      refine x_norm ?_
      refine c_next ?_
      refine c_reg ?_
      refine sv (r_move (v := .int _ _) rfl) ?_
      refine sv (r_addI (a := xl1_t6) (b := 1) rfl rfl) ?_
      refine sv (r_assign (v := .int _ _) rfl) ?_
      refine s_nil ?_
      refine l_end (m' := kl31) (Nat.lt_succ_self _) ?_
      rw [← Option.some.inj h] at hyl31
      exact ⟨(w64 (xl1_t6 + 1)), hyl31, rfl, rfl, rfl, hO40, (e31.trans (e32.trans e40))⟩
    replace h := iF (nt hb33) h
    refine c_condF (congrArg Value.bool hb33) ?_
    refine c_exit ?_
    refine x_then ?_
    refine x_then ?_
    refine x_same ?_
    replace h := crossE h hyl31
    refine c_next ?_
    refine c_seq ?_
    refine c_seq ?_
    refine c_reg ?_
    refine sv (r_move (v := .slice _ _ _) rfl) ?_
    refine sv (r_lenL (xs := x0) Try.underlying30 rfl hm0p) ?_
    refine c_eql rfl rfl (fun h28 => ?_) (fun h28 => ?_)
    · replace h := iT h28 h
      refine s_nil ?_
      refine c_next ?_
      refine c_condT rfl ?_
      refine c_seq ?_
      refine c_reg ?_
      refine sv (r_move (v := .slice _ _ _) rfl) ?_
      refine sv (r_assign (v := .slice _ _ _) rfl) ?_
      refine sv (r_assign (v := .int _ _) rfl) ?_
      refine s_nil ?_
      refine c_next ?_
      refine c_ret ?_
      refine r_then ?_
      refine e_2 (v := .slice _ _ _) (v' := .int _ _) Try.results52 rfl rfl ?_
      obtain ⟨hO45, e45⟩ := hO32.drop1
      rw [← Option.some.inj h]
      exact ⟨aP0, mP0, cP0, rfl, hm0p, hc0p, (hR0p.ext (e32.trans e45)), hO45, (e2.trans (e8.trans (e31.trans (e32.trans e45))))⟩
    replace h := iF h28 h
    refine s_nil ?_
    refine c_next ?_
    refine c_condF rfl ?_
    refine c_skip ?_
    refine c_next ?_
    refine c_seq ?_
    have hR0p := (hR0p.ext e32)
    refine d_startL hO32 hO32 6 (by kernel_rfl) (pk_then pk_body) ?_
    intro hP47 wd47 hK47 hO46 e46
    refine dT (i := 1) (listed' := #[O_,I_,O_,O_,O_,O_,O_,O_]) rfl hP47 hK47 (fun wS hS => (r_move (v := .slice _ _ _) rfl)) ?_
    refine dT (i := 3) (listed' := #[O_,I_,O_,I_,O_,O_,O_,O_]) rfl hP47 hK47 (fun wS hS => (rl_all Try.underlying90 rfl I90 rfl (hS.own.get (i := 0) rfl) rfl rfl)) ?_
    refine d_two (i := 0) (j := 4) (l1 := #[I_,I_,O_,I_,O_,O_,O_,O_]) (l2 := #[O_,I_,O_,I_,I_,O_,O_,O_]) (by rfl) (by rfl) (by kernel_rfl) (by rfl) (by rfl) ?_ ?_
    · skip
      refine a_lit (en := e_batonref26_Ticket) (xs := []) (vs := []) Try.underlying30 I90 hO46 rfl rfl (by simp [Value.cells]) (by decide) rfl e_batonref26_Ticket_len rfl (by decide) ?_
      intro a30 m30 c30 S30 w48 hm30 hS30 hO48 e48
      have hK49 : Kept w32 _ _ w48 := Kept.to (e46.trans e48) hO48.r
      refine d_back hK49 ?_
      refine d_two (i := 2) (j := 4) (l1 := #[I_,I_,I_,I_,O_,O_,O_,O_]) (l2 := #[I_,I_,O_,I_,I_,O_,O_,O_]) (by rfl) (by rfl) (by kernel_rfl) (by rfl) (by rfl) ?_ ?_
      · skip
        obtain ⟨y32, hy32, h⟩ := bindE h
        refine a_append (e := e_batonref26_Ticket) (xs := []) (ys := x0) Try.underlying30 I90 rfl (by decide) (by decide) rfl rfl hS30 hO48 (Rd.cs (hR0p.ext (e46.trans e48))) e_batonref26_Ticket_len e_batonref26_Ticket1 hm30 hm0p hy32 ?_
        intro a32 m32 c32 S32a w50 hm32 hS32a hO50 e50
        have hK51 : Kept w32 _ _ w50 := Kept.to (e46.trans (e48.trans e50)) hO50.r
        refine d_back hK51 ?_
        refine d1 (i := 4) (listed' := #[I_,I_,I_,I_,I_,O_,O_,O_]) ?_
        refine a_lit (en := e_batonref26_Ticket) (xs := [x1]) (vs := [(.agg #[(.int .i64 x1.No), (.int .i64 x1.For), (.int .i64 x1.Until)])]) Try.underlying30 I90 hO50 rfl rfl (by simp [Value.cells]) (by decide) rfl e_batonref26_Ticket_len rfl (by decide) ?_
        intro a34 m34 c34 S34 w52 hm34 hS34 hO52 e52
        have hK53 : Kept w32 _ _ w52 := Kept.to (e46.trans (e48.trans (e50.trans e52))) hO52.r.r
        refine d_back hK53 ?_
        refine d1 (i := 5) (listed' := #[I_,I_,I_,I_,I_,I_,O_,O_]) ?_
        have hR55 := (hS34.drop hO52).2.2
        obtain ⟨hO55, e55⟩ := hO52.dropS
        obtain ⟨y35, hy35, h⟩ := bindE h
        refine a_append (e := e_batonref26_Ticket) (xs := y32) (ys := [x1]) Try.underlying30 I90 rfl (by decide) (by decide) rfl rfl hS32a hO55 (Rd.cs hR55) e_batonref26_Ticket_len e_batonref26_Ticket1 hm32 hm34 hy35 ?_
        intro a35 m35 c35 S35a w54 hm35 hS35a hO54 e54
        have hK56 : Kept w32 _ _ w54 := Kept.to (e46.trans (e48.trans (e50.trans (e52.trans (e55.trans e54))))) hO54.r
        refine d_back hK56 ?_
        refine d1 (i := 6) (listed' := #[I_,I_,I_,I_,I_,I_,I_,O_]) ?_
        refine sv (r_assign (v := .slice _ _ _) rfl) ?_
        refine d_tail rfl ?_
        refine d1 (i := 7) (listed' := #[I_,I_,I_,I_,I_,I_,I_,I_]) ?_
        refine sv (r_assign (v := .int _ _) rfl) ?_
        refine d_tail rfl ?_
        refine d_done (by kernel_rfl) ?_
        refine c_next ?_
        refine c_ret ?_
        refine e_2 (v := .slice _ _ _) (v' := .int _ _) Try.results52 rfl rfl ?_
        have hR57 := (hS35a.drop hO54).2.2
        obtain ⟨hO57, e57⟩ := hO54.dropS
        obtain ⟨hO58, e58⟩ := hO57.drop1
        rw [← Option.some.inj h]
        exact ⟨a35, m35, c35, rfl, hm35, hS35a.le.1, (hR57.ext e58), hO58, (e2.trans (e8.trans (e31.trans (e32.trans (e46.trans (e48.trans (e50.trans (e52.trans (e55.trans (e54.trans (e57.trans e58)))))))))))⟩
      refine a_lit (en := e_batonref26_Ticket) (xs := [x1]) (vs := [(.agg #[(.int .i64 x1.No), (.int .i64 x1.For), (.int .i64 x1.Until)])]) Try.underlying30 I90 hO48 rfl rfl (by simp [Value.cells]) (by decide) rfl e_batonref26_Ticket_len rfl (by decide) ?_
      intro a34 m34 c34 S34 w59 hm34 hS34 hO59 e59
      have hK60 : Kept w32 _ _ w59 := Kept.to (e46.trans (e48.trans e59)) hO59.r.r
      refine d_back hK60 ?_
      refine d1 (i := 2) (listed' := #[I_,I_,I_,I_,I_,O_,O_,O_]) ?_
      obtain ⟨y32, hy32, h⟩ := bindE h
      obtain ⟨hO62, e62⟩ := hO59.permE (pmA pm0)
      refine a_append (e := e_batonref26_Ticket) (xs := []) (ys := x0) Try.underlying30 I90 rfl (by decide) (by decide) rfl rfl hS30 hO62 (Rd.cs (hR0p.ext (e46.trans (e48.trans (e59.trans e62))))) e_batonref26_Ticket_len e_batonref26_Ticket1 hm30 hm0p hy32 ?_
      intro a32 m32 c32 S32a w61 hm32 hS32a hO61 e61
      have hK63 : Kept w32 _ _ w61 := Kept.to (e46.trans (e48.trans (e59.trans (e62.trans e61)))) hO61.r.r
      refine d_back hK63 ?_
      refine d1 (i := 5) (listed' := #[I_,I_,I_,I_,I_,I_,O_,O_]) ?_
      obtain ⟨hO65, e65⟩ := hO61.permE (pmA pm0)
      have hR66 := (hS34.drop hO65).2.2
      obtain ⟨hO66, e66⟩ := hO65.dropS
      obtain ⟨y35, hy35, h⟩ := bindE h
      refine a_append (e := e_batonref26_Ticket) (xs := y32) (ys := [x1]) Try.underlying30 I90 rfl (by decide) (by decide) rfl rfl hS32a hO66 (Rd.cs hR66) e_batonref26_Ticket_len e_batonref26_Ticket1 hm32 hm34 hy35 ?_
      intro a35 m35 c35 S35a w64 hm35 hS35a hO64 e64
      have hK67 : Kept w32 _ _ w64 := Kept.to (e46.trans (e48.trans (e59.trans (e62.trans (e61.trans (e65.trans (e66.trans e64))))))) hO64.r
      refine d_back hK67 ?_
      refine d1 (i := 6) (listed' := #[I_,I_,I_,I_,I_,I_,I_,O_]) ?_
      refine sv (r_assign (v := .slice _ _ _) rfl) ?_
      refine d_tail rfl ?_
      refine d1 (i := 7) (listed' := #[I_,I_,I_,I_,I_,I_,I_,I_]) ?_
      refine sv (r_assign (v := .int _ _) rfl) ?_
      refine d_tail rfl ?_
      refine d_done (by kernel_rfl) ?_
      refine c_next ?_
      refine c_ret ?_
      refine e_2 (v := .slice _ _ _) (v' := .int _ _) Try.results52 rfl rfl ?_
      have hR68 := (hS35a.drop hO64).2.2
      obtain ⟨hO68, e68⟩ := hO64.dropS
      obtain ⟨hO69, e69⟩ := hO68.drop1
      rw [← Option.some.inj h]
      exact ⟨a35, m35, c35, rfl, hm35, hS35a.le.1, (hR68.ext e69), hO69, (e2.trans (e8.trans (e31.trans (e32.trans (e46.trans (e48.trans (e59.trans (e62.trans (e61.trans (e65.trans (e66.trans (e64.trans (e68.trans e69)))))))))))))⟩
    refine a_lit (en := e_batonref26_Ticket) (xs := [x1]) (vs := [(.agg #[(.int .i64 x1.No), (.int .i64 x1.For), (.int .i64 x1.Until)])]) Try.underlying30 I90 hO46 rfl rfl (by simp [Value.cells]) (by decide) rfl e_batonref26_Ticket_len rfl (by decide) ?_
    intro a34 m34 c34 S34 w70 hm34 hS34 hO70 e70
    have hK71 : Kept w32 _ _ w70 := Kept.to (e46.trans e70) hO70.r
    refine d_back hK71 ?_
    refine d1 (i := 0) (listed' := #[I_,I_,O_,I_,I_,O_,O_,O_]) ?_
    refine a_lit (en := e_batonref26_Ticket) (xs := []) (vs := []) Try.underlying30 I90 hO70 rfl rfl (by simp [Value.cells]) (by decide) rfl e_batonref26_Ticket_len rfl (by decide) ?_
    intro a30 m30 c30 S30 w72 hm30 hS30 hO72 e72
    have hK73 : Kept w32 _ _ w72 := Kept.to (e46.trans (e70.trans e72)) hO72.r.r
    refine d_back hK73 ?_
    refine d1 (i := 2) (listed' := #[I_,I_,I_,I_,I_,O_,O_,O_]) ?_
    obtain ⟨y32, hy32, h⟩ := bindE h
    refine a_append (e := e_batonref26_Ticket) (xs := []) (ys := x0) Try.underlying30 I90 rfl (by decide) (by decide) rfl rfl hS30 hO72 (Rd.cs (hR0p.ext (e46.trans (e70.trans e72)))) e_batonref26_Ticket_len e_batonref26_Ticket1 hm30 hm0p hy32 ?_
    intro a32 m32 c32 S32a w74 hm32 hS32a hO74 e74
    have hK75 : Kept w32 _ _ w74 := Kept.to (e46.trans (e70.trans (e72.trans e74))) hO74.r.r
    refine d_back hK75 ?_
    refine d1 (i := 5) (listed' := #[I_,I_,I_,I_,I_,I_,O_,O_]) ?_
    obtain ⟨hO77, e77⟩ := hO74.permE (pmA pm0)
    have hR78 := (hS34.drop hO77).2.2
    obtain ⟨hO78, e78⟩ := hO77.dropS
    obtain ⟨y35, hy35, h⟩ := bindE h
    refine a_append (e := e_batonref26_Ticket) (xs := y32) (ys := [x1]) Try.underlying30 I90 rfl (by decide) (by decide) rfl rfl hS32a hO78 (Rd.cs hR78) e_batonref26_Ticket_len e_batonref26_Ticket1 hm32 hm34 hy35 ?_
    intro a35 m35 c35 S35a w76 hm35 hS35a hO76 e76
    have hK79 : Kept w32 _ _ w76 := Kept.to (e46.trans (e70.trans (e72.trans (e74.trans (e77.trans (e78.trans e76)))))) hO76.r
    refine d_back hK79 ?_
    refine d1 (i := 6) (listed' := #[I_,I_,I_,I_,I_,I_,I_,O_]) ?_
    refine sv (r_assign (v := .slice _ _ _) rfl) ?_
    refine d_tail rfl ?_
    refine d1 (i := 7) (listed' := #[I_,I_,I_,I_,I_,I_,I_,I_]) ?_
    refine sv (r_assign (v := .int _ _) rfl) ?_
    refine d_tail rfl ?_
    refine d_done (by kernel_rfl) ?_
    refine c_next ?_
    refine c_ret ?_
    refine e_2 (v := .slice _ _ _) (v' := .int _ _) Try.results52 rfl rfl ?_
    have hR80 := (hS35a.drop hO76).2.2
    obtain ⟨hO80, e80⟩ := hO76.dropS
    obtain ⟨hO81, e81⟩ := hO80.drop1
    rw [← Option.some.inj h]
    exact ⟨a35, m35, c35, rfl, hm35, hS35a.le.1, (hR80.ext e81), hO81, (e2.trans (e8.trans (e31.trans (e32.trans (e46.trans (e70.trans (e72.trans (e74.trans (e77.trans (e78.trans (e76.trans (e80.trans e81))))))))))))⟩
  replace h := iF (nt hb9) h
  refine c_condT (congrArg Value.bool (nnf hb9)) ?_
  refine c_seq ?_
  refine c_reg ?_
  refine sv (r_move (v := .slice _ _ _) rfl) ?_
  refine sv (r_assign (v := .slice _ _ _) rfl) ?_
  refine sv (r_assign (v := .int _ _) rfl) ?_
  refine s_nil ?_
  refine c_next ?_
  refine c_ret ?_
  refine r_then ?_
  refine e_2 (v := .slice _ _ _) (v' := .int _ _) Try.results52 rfl rfl ?_
  obtain ⟨hO82, e82⟩ := hO8.drop1
  rw [← Option.some.inj h]
  exact ⟨aP0, mP0, cP0, rfl, hm0p, hc0p, (hR0p.ext (e2.trans (e8.trans e82))), hO82, (e2.trans (e8.trans e82))⟩
theorem c_batonref27_issue (x0 : T_batonref27_State) (x1 : T_batonref27_Op) (aP0 : Option Addr) (mP0 cP0 : Nat) (aP1 : Option Addr) (mP1 cP1 : Nat)  (r : (T_batonref27_State × Int)) (h : F_batonref27_issue x0 x1 = some r) (w : World) (L : Hp) (hm0p : x0.Roster.length = mP0) (hc0p : mP0 ≤ cP0) (hR0p : Rd w L aP0 (fl e_batonref25_Device x0.Roster)) (hm1p : x0.Tickets.length = mP1) (hc1p : mP1 ≤ cP1) (hR1p : Rd w L aP1 (fl e_batonref26_Ticket x0.Tickets)) (hO : Own w L) :
    Calls Try.prog 30 #[(.agg #[(.int .i64 x0.Epoch), (.int .i64 x0.Owner), (.int .i64 x0.Next), (.slice aP0 mP0 cP0), (.slice aP1 mP1 cP1)]), (.agg #[(.int .i64 x1.Kind), (.int .i64 x1.Device), (.int .i64 x1.Request), (.int .i64 x1.Ticket), (.int .i64 x1.For), (.int .i64 x1.Until), (.int .i64 x1.Now)])] w fun en w' => ∃ (ra0 : Option Addr) (rm0 rc0 : Nat) (ra1 : Option Addr) (rm1 rc1 : Nat), en = .returned (.tuple #[(.agg #[(.int .i64 r.1.Epoch), (.int .i64 r.1.Owner), (.int .i64 r.1.Next), (.slice ra0 rm0 rc0), (.slice ra1 rm1 rc1)]), (.int .i64 r.2)]) ∧ r.1.Roster.length = rm0 ∧ rm0 ≤ rc0 ∧ Rd w' L ra0 (fl e_batonref25_Device r.1.Roster) ∧ r.1.Tickets.length = rm1 ∧ rm1 ≤ rc1 ∧ Rd w' L ra1 (fl e_batonref26_Ticket r.1.Tickets) ∧ Own w' L ∧ Ext w L w' L := by
  unfold F_batonref27_issue at h
  refine enter (n := 79) [(.agg #[(.int .i64 x0.Epoch), (.int .i64 x0.Owner), (.int .i64 x0.Next), (.slice aP0 mP0 cP0), (.slice aP1 mP1 cP1)]), (.agg #[(.int .i64 x1.Kind), (.int .i64 x1.Device), (.int .i64 x1.Request), (.int .i64 x1.Ticket), (.int .i64 x1.For), (.int .i64 x1.Until), (.int .i64 x1.Now)])] Try.func30 rfl rfl (Nat.le_of_ble_eq_true rfl) ?_
  refine c_seq ?_
  refine c_reg ?_
  refine s_box (v := (.agg #[(.int .i64 x0.Epoch), (.int .i64 x0.Owner), (.int .i64 x0.Next), (.slice aP0 mP0 cP0), (.slice aP1 mP1 cP1)])) rfl hO ?_
  intro b2 w4 hz2 hl2 hO4 e4
  have hO5 : Own w4 ((b2, .cells #[(.int .i64 x0.Epoch), (.int .i64 x0.Owner), (.int .i64 x0.Next), (.slice aP0 mP0 cP0), (.slice aP1 mP1 cP1)] 32 (0, 0)) :: L) := hO4
  refine s_box (v := (.agg #[(.int .i64 x1.Kind), (.int .i64 x1.Device), (.int .i64 x1.Request), (.int .i64 x1.Ticket), (.int .i64 x1.For), (.int .i64 x1.Until), (.int .i64 x1.Now)])) rfl hO5 ?_
  intro b3 w7 hz3 hl3 hO7 e7
  have hO8 : Own w7 ((b3, .cells #[(.int .i64 x1.Kind), (.int .i64 x1.Device), (.int .i64 x1.Request), (.int .i64 x1.Ticket), (.int .i64 x1.For), (.int .i64 x1.Until), (.int .i64 x1.Now)] 40 (0, 0)) :: ((b2, .cells #[(.int .i64 x0.Epoch), (.int .i64 x0.Owner), (.int .i64 x0.Next), (.slice aP0 mP0 cP0), (.slice aP1 mP1 cP1)] 32 (0, 0)) :: L)) := hO7
  refine s_alloc I32 hO8 ?_
  intro b4 w10 hz4 hl4 hO10 e10
  have hO11 : Own w10 ((b4, .cells #[(.int .i64 0), (.int .i64 0), (.int .i64 0), (.slice none 0 0), (.slice none 0 0)] 32 (0, 0)) :: ((b3, .cells #[(.int .i64 x1.Kind), (.int .i64 x1.Device), (.int .i64 x1.Request), (.int .i64 x1.Ticket), (.int .i64 x1.For), (.int .i64 x1.Until), (.int .i64 x1.Now)] 40 (0, 0)) :: ((b2, .cells #[(.int .i64 x0.Epoch), (.int .i64 x0.Owner), (.int .i64 x0.Next), (.slice aP0 mP0 cP0), (.slice aP1 mP1 cP1)] 32 (0, 0)) :: L))) := hO10
  refine sv (r_assign (v := .int _ _) rfl) ?_
  refine s_nil ?_
  refine c_next ?_
  refine c_seq ?_
  refine c_block ?_
  have hR0p := (hR0p.ext (e4.trans (e7.trans e10)))
  have hR1p := (hR1p.ext (e4.trans (e7.trans e10)))
  obtain ⟨oc35, G35, hG35, h, hr35⟩ := bindG h
  refine c_cutL hO11 (fun Lc f0 g w' => ∃ (xc1_t8 : Bool), (G35 xc1_t8 = some r) ∧ g 2 = (.pointer (some ⟨b2, 0, none⟩)) ∧ g 3 = (.pointer (some ⟨b3, 0, none⟩)) ∧ g 4 = (.pointer (some ⟨b4, 0, none⟩)) ∧ g 8 = (.bool xc1_t8) ∧ Own w' ((b2, .cells #[(.int .i64 x0.Epoch), (.int .i64 x0.Owner), (.int .i64 x0.Next), (.slice aP0 mP0 cP0), (.slice aP1 mP1 cP1)] 32 (0, 0)) :: ((b3, .cells #[(.int .i64 x1.Kind), (.int .i64 x1.Device), (.int .i64 x1.Request), (.int .i64 x1.Ticket), (.int .i64 x1.For), (.int .i64 x1.Until), (.int .i64 x1.Now)] 40 (0, 0)) :: ((b4, .cells #[(.int .i64 0), (.int .i64 0), (.int .i64 0), (.slice none 0 0), (.slice none 0 0)] 32 (0, 0)) :: L))) ∧ Ext w10 Lc w' ((b2, .cells #[(.int .i64 x0.Epoch), (.int .i64 x0.Owner), (.int .i64 x0.Next), (.slice aP0 mP0 cP0), (.slice aP1 mP1 cP1)] 32 (0, 0)) :: ((b3, .cells #[(.int .i64 x1.Kind), (.int .i64 x1.Device), (.int .i64 x1.Request), (.int .i64 x1.Ticket), (.int .i64 x1.For), (.int .i64 x1.Until), (.int .i64 x1.Now)] 40 (0, 0)) :: ((b4, .cells #[(.int .i64 0), (.int .i64 0), (.int .i64 0), (.slice none 0 0), (.slice none 0 0)] 32 (0, 0)) :: L)))) ?_ ?_
  · skip
    refine c_reg ?_
    refine sv (r_fieldAddr Try.underlying32 rfl I3 (by decide) rfl) ?_
    refine s_load1 (v := .int _ _) Try.underlying3 rfl rfl (cellB (hO11.get (i := 2) rfl) rfl rfl) ?_
    refine sv (r_fieldAddr Try.underlying40 rfl I3 (by decide) rfl) ?_
    refine s_load1 (v := .int _ _) Try.underlying3 rfl rfl (cellB (hO11.get (i := 1) rfl) rfl rfl) ?_
    refine c_neq rfl rfl (fun h13 => ?_) (fun h13 => ?_)
    · replace h := iT h13 h
      refine sv (r_assign (v := .bool true) rfl) ?_
      refine s_nil ?_
      refine c_next ?_
      rw [← Option.some.inj h] at hr35
      obtain ⟨hO36, e36⟩ := hO11.permE (pmbC pmb0)
      obtain ⟨hO37, e37⟩ := hO36.permE (pmbC (pmbC pmb0))
      exact ⟨_, rfl, true, hr35, rfl, rfl, rfl, rfl, hO37, (e36.trans e37)⟩
    replace h := iF (Classical.not_not.2 h13) h
    refine sv (r_assign (v := .bool false) rfl) ?_
    refine s_nil ?_
    refine c_next ?_
    rw [← Option.some.inj h] at hr35
    obtain ⟨hO38, e38⟩ := hO11.permE (pmbC pmb0)
    obtain ⟨hO39, e39⟩ := hO38.permE (pmbC (pmbC pmb0))
    exact ⟨_, rfl, false, hr35, rfl, rfl, rfl, rfl, hO39, (e38.trans e39)⟩
  intro gg35 w35 hI35
  clear h hr35
  obtain ⟨xc1_t8, h, hsc1_2, hsc1_3, hsc1_4, hsc1_8, hO35, e35⟩ := hI35
  replace h := hG_ hG35 h; clear hG35
  obtain ⟨qq35, rfl⟩ := fr4 hsc1_2 hsc1_3 hsc1_4 hsc1_8
  clear hsc1_2 hsc1_3 hsc1_4 hsc1_8
  rcases Bool.eq_false_or_eq_true (xc1_t8) with hb40 | hb40
  · replace h := iT hb40 h
    refine c_condT (congrArg Value.bool hb40) ?_
    refine c_seq ?_
    refine c_reg ?_
    refine s_loadAll Try.underlying32 rfl I32 rfl (hO35.get (i := 0) rfl) rfl rfl ?_
    refine s_storeN (vs := #[(.int .i64 x0.Epoch), (.int .i64 x0.Owner), (.int .i64 x0.Next), (.slice aP0 mP0 cP0), (.slice aP1 mP1 cP1)]) I32 rfl rfl rfl hO35 (i := 2) rfl (Nat.le_of_ble_eq_true rfl) (List.all_eq_true.1 rfl) ?_
    intro w42 hO42 e42
    have hO43 : Own w42 ((b2, .cells #[(.int .i64 x0.Epoch), (.int .i64 x0.Owner), (.int .i64 x0.Next), (.slice aP0 mP0 cP0), (.slice aP1 mP1 cP1)] 32 (0, 0)) :: ((b3, .cells #[(.int .i64 x1.Kind), (.int .i64 x1.Device), (.int .i64 x1.Request), (.int .i64 x1.Ticket), (.int .i64 x1.For), (.int .i64 x1.Until), (.int .i64 x1.Now)] 40 (0, 0)) :: ((b4, .cells #[(.int .i64 x0.Epoch), (.int .i64 x0.Owner), (.int .i64 x0.Next), (.slice aP0 mP0 cP0), (.slice aP1 mP1 cP1)] 32 (0, 0)) :: L))) := hO42
    refine sv (r_assign (v := .int _ _) rfl) ?_
    refine s_nil ?_
    refine c_next ?_
    refine c_ret ?_
    refine r_block ?_
    refine r_then ?_
    refine e_r2 Try.results30 (rv_agg Try.underlying32 rfl I32 rfl (hO43.get (i := 2) rfl) rfl rfl) (rv_tmp (v := .int _ _) rfl) ?_
    obtain ⟨hO45, e45⟩ := hO43.drop1
    obtain ⟨hO46, e46⟩ := hO45.drop1
    obtain ⟨hO47, e47⟩ := hO46.drop1
    rw [← Option.some.inj h]
    exact ⟨aP0, mP0, cP0, aP1, mP1, cP1, rfl, hm0p, hc0p, (hR0p.ext (e35.trans (e42.trans (e45.trans (e46.trans e47))))), hm1p, hc1p, (hR1p.ext (e35.trans (e42.trans (e45.trans (e46.trans e47))))), hO47, (e4.trans (e7.trans (e10.trans (e35.trans (e42.trans (e45.trans (e46.trans e47)))))))⟩
  replace h := iF (nt hb40) h
  refine c_condF (congrArg Value.bool hb40) ?_
  have hR0p := (hR0p.ext e35)
  have hR1p := (hR1p.ext e35)
  obtain ⟨oc48, G48, hG48, h, hr48⟩ := bindG h
  refine c_cutL hO35 (fun Lc f0 g w' => ∃ (xc2_t15 : Bool), (G48 xc2_t15 = some r) ∧ g 2 = (.pointer (some ⟨b2, 0, none⟩)) ∧ g 3 = (.pointer (some ⟨b3, 0, none⟩)) ∧ g 4 = (.pointer (some ⟨b4, 0, none⟩)) ∧ g 15 = (.bool xc2_t15) ∧ Own w' ((b2, .cells #[(.int .i64 x0.Epoch), (.int .i64 x0.Owner), (.int .i64 x0.Next), (.slice aP0 mP0 cP0), (.slice aP1 mP1 cP1)] 32 (0, 0)) :: ((b3, .cells #[(.int .i64 x1.Kind), (.int .i64 x1.Device), (.int .i64 x1.Request), (.int .i64 x1.Ticket), (.int .i64 x1.For), (.int .i64 x1.Until), (.int .i64 x1.Now)] 40 (0, 0)) :: ((b4, .cells #[(.int .i64 0), (.int .i64 0), (.int .i64 0), (.slice none 0 0), (.slice none 0 0)] 32 (0, 0)) :: L))) ∧ Ext w35 Lc w' ((b2, .cells #[(.int .i64 x0.Epoch), (.int .i64 x0.Owner), (.int .i64 x0.Next), (.slice aP0 mP0 cP0), (.slice aP1 mP1 cP1)] 32 (0, 0)) :: ((b3, .cells #[(.int .i64 x1.Kind), (.int .i64 x1.Device), (.int .i64 x1.Request), (.int .i64 x1.Ticket), (.int .i64 x1.For), (.int .i64 x1.Until), (.int .i64 x1.Now)] 40 (0, 0)) :: ((b4, .cells #[(.int .i64 0), (.int .i64 0), (.int .i64 0), (.slice none 0 0), (.slice none 0 0)] 32 (0, 0)) :: L)))) ?_ ?_
  · skip
    refine c_reg ?_
    refine sv (r_fieldAddr Try.underlying40 rfl I3 (by decide) rfl) ?_
    refine s_load1 (v := .int _ _) Try.underlying3 rfl rfl (cellB (hO35.get (i := 1) rfl) rfl rfl) ?_
    refine c_lss rfl rfl (fun h18 => ?_) (fun h18 => ?_)
    · replace h := iT h18 h
      refine sv (r_move (v := .bool true) rfl) ?_
      refine g_skip 19 (by rfl) rfl (by rfl) ?_
      refine g_skip 19 (by rfl) rfl (by rfl) ?_
      refine g_skip 19 (by rfl) rfl (by rfl) ?_
      refine sv (r_pickT (v := .bool true) rfl rfl) ?_
      refine sv (r_assign (v := .bool true) rfl) ?_
      refine s_nil ?_
      refine c_next ?_
      rw [← Option.some.inj h] at hr48
      exact ⟨_, rfl, true, hr48, rfl, rfl, rfl, rfl, hO35, (Ext.refl _ _)⟩
    replace h := iF (Int.not_lt.2 h18) h
    refine sv (r_move (v := .bool false) rfl) ?_
    refine g_do 19 (by rfl) rfl ?_
    refine sv (r_fieldAddr Try.underlying40 rfl I3 (by decide) rfl) ?_
    refine g_do 19 (by rfl) rfl ?_
    refine s_load1 (v := .int _ _) Try.underlying3 rfl rfl (cellB (hO35.get (i := 1) rfl) rfl rfl) ?_
    refine g_do 19 (by rfl) rfl ?_
    refine c_gtr rfl rfl (fun h22 => ?_) (fun h22 => ?_)
    · replace h := iT h22 h
      refine sv (r_pickF (v := .bool true) rfl rfl) ?_
      refine sv (r_assign (v := .bool true) rfl) ?_
      refine s_nil ?_
      refine c_next ?_
      rw [← Option.some.inj h] at hr48
      exact ⟨_, rfl, true, hr48, rfl, rfl, rfl, rfl, hO35, (Ext.refl _ _)⟩
    replace h := iF (Int.not_lt.2 h22) h
    refine sv (r_pickF (v := .bool false) rfl rfl) ?_
    refine sv (r_assign (v := .bool false) rfl) ?_
    refine s_nil ?_
    refine c_next ?_
    rw [← Option.some.inj h] at hr48
    exact ⟨_, rfl, false, hr48, rfl, rfl, rfl, rfl, hO35, (Ext.refl _ _)⟩
  intro gg48 w48 hI48
  clear h hr48
  obtain ⟨xc2_t15, h, hsc2_2, hsc2_3, hsc2_4, hsc2_15, hO48, e48⟩ := hI48
  replace h := hG_ hG48 h; clear hG48
  obtain ⟨qq48, rfl⟩ := fr4 hsc2_2 hsc2_3 hsc2_4 hsc2_15
  clear hsc2_2 hsc2_3 hsc2_4 hsc2_15
  rcases Bool.eq_false_or_eq_true (xc2_t15) with hb49 | hb49
  · replace h := iT hb49 h
    refine c_condT (congrArg Value.bool hb49) ?_
    refine c_seq ?_
    refine c_reg ?_
    refine s_loadAll Try.underlying32 rfl I32 rfl (hO48.get (i := 0) rfl) rfl rfl ?_
    refine s_storeN (vs := #[(.int .i64 x0.Epoch), (.int .i64 x0.Owner), (.int .i64 x0.Next), (.slice aP0 mP0 cP0), (.slice aP1 mP1 cP1)]) I32 rfl rfl rfl hO48 (i := 2) rfl (Nat.le_of_ble_eq_true rfl) (List.all_eq_true.1 rfl) ?_
    intro w51 hO51 e51
    have hO52 : Own w51 ((b2, .cells #[(.int .i64 x0.Epoch), (.int .i64 x0.Owner), (.int .i64 x0.Next), (.slice aP0 mP0 cP0), (.slice aP1 mP1 cP1)] 32 (0, 0)) :: ((b3, .cells #[(.int .i64 x1.Kind), (.int .i64 x1.Device), (.int .i64 x1.Request), (.int .i64 x1.Ticket), (.int .i64 x1.For), (.int .i64 x1.Until), (.int .i64 x1.Now)] 40 (0, 0)) :: ((b4, .cells #[(.int .i64 x0.Epoch), (.int .i64 x0.Owner), (.int .i64 x0.Next), (.slice aP0 mP0 cP0), (.slice aP1 mP1 cP1)] 32 (0, 0)) :: L))) := hO51
    refine sv (r_assign (v := .int _ _) rfl) ?_
    refine s_nil ?_
    refine c_next ?_
    refine c_ret ?_
    refine r_block ?_
    refine r_then ?_
    refine e_r2 Try.results30 (rv_agg Try.underlying32 rfl I32 rfl (hO52.get (i := 2) rfl) rfl rfl) (rv_tmp (v := .int _ _) rfl) ?_
    obtain ⟨hO54, e54⟩ := hO52.drop1
    obtain ⟨hO55, e55⟩ := hO54.drop1
    obtain ⟨hO56, e56⟩ := hO55.drop1
    rw [← Option.some.inj h]
    exact ⟨aP0, mP0, cP0, aP1, mP1, cP1, rfl, hm0p, hc0p, (hR0p.ext (e48.trans (e51.trans (e54.trans (e55.trans e56))))), hm1p, hc1p, (hR1p.ext (e48.trans (e51.trans (e54.trans (e55.trans e56))))), hO56, (e4.trans (e7.trans (e10.trans (e35.trans (e48.trans (e51.trans (e54.trans (e55.trans e56))))))))⟩
  replace h := iF (nt hb49) h
  refine c_condF (congrArg Value.bool hb49) ?_
  have hR0p := (hR0p.ext e48)
  have hR1p := (hR1p.ext e48)
  obtain ⟨oc59, G59, hG59, h, hr59⟩ := bindG h
  refine c_cutL hO48 (fun Lc f0 g w' => ∃ (xc3_t25 : Bool), (G59 xc3_t25 = some r) ∧ g 2 = (.pointer (some ⟨b2, 0, none⟩)) ∧ g 3 = (.pointer (some ⟨b3, 0, none⟩)) ∧ g 4 = (.pointer (some ⟨b4, 0, none⟩)) ∧ g 25 = (.bool xc3_t25) ∧ Own w' ((b2, .cells #[(.int .i64 x0.Epoch), (.int .i64 x0.Owner), (.int .i64 x0.Next), (.slice aP0 mP0 cP0), (.slice aP1 mP1 cP1)] 32 (0, 0)) :: ((b3, .cells #[(.int .i64 x1.Kind), (.int .i64 x1.Device), (.int .i64 x1.Request), (.int .i64 x1.Ticket), (.int .i64 x1.For), (.int .i64 x1.Until), (.int .i64 x1.Now)] 40 (0, 0)) :: ((b4, .cells #[(.int .i64 0), (.int .i64 0), (.int .i64 0), (.slice none 0 0), (.slice none 0 0)] 32 (0, 0)) :: L))) ∧ Ext w48 Lc w' ((b2, .cells #[(.int .i64 x0.Epoch), (.int .i64 x0.Owner), (.int .i64 x0.Next), (.slice aP0 mP0 cP0), (.slice aP1 mP1 cP1)] 32 (0, 0)) :: ((b3, .cells #[(.int .i64 x1.Kind), (.int .i64 x1.Device), (.int .i64 x1.Request), (.int .i64 x1.Ticket), (.int .i64 x1.For), (.int .i64 x1.Until), (.int .i64 x1.Now)] 40 (0, 0)) :: ((b4, .cells #[(.int .i64 0), (.int .i64 0), (.int .i64 0), (.slice none 0 0), (.slice none 0 0)] 32 (0, 0)) :: L)))) ?_ ?_
  · skip
    refine c_reg ?_
    refine sv (r_fieldAddr Try.underlying40 rfl I3 (by decide) rfl) ?_
    refine s_load1 (v := .int _ _) Try.underlying3 rfl rfl (cellB (hO48.get (i := 1) rfl) rfl rfl) ?_
    refine c_geq rfl rfl (fun h28 => ?_) (fun h28 => ?_)
    · replace h := iT h28 h
      refine sv (r_move (v := .bool true) rfl) ?_
      refine g_do 29 (by rfl) rfl ?_
      refine sv (r_fieldAddr Try.underlying32 rfl I29 (by decide) rfl) ?_
      refine g_do 29 (by rfl) rfl ?_
      refine s_load1 (v := .slice _ _ _) Try.underlying29 rfl rfl (cellB (hO48.get (i := 0) rfl) rfl rfl) ?_
      refine g_do 29 (by rfl) rfl ?_
      refine sv (r_fieldAddr Try.underlying40 rfl I3 (by decide) rfl) ?_
      refine g_do 29 (by rfl) rfl ?_
      refine s_load1 (v := .int _ _) Try.underlying3 rfl rfl (cellB (hO48.get (i := 1) rfl) rfl rfl) ?_
      refine g_do 29 (by rfl) rfl ?_
      obtain ⟨y34, hy34, h⟩ := bindE h
      refine s_call cf51 rfl (c_batonref25_There x0.Roster x1.For aP0 mP0 cP0 _ hy34 _ _ hm0p hc0p hR0p hO48) ?_
      rintro er34 w60 ⟨rfl, hO60, e60⟩
      refine ⟨_, rfl, ?_⟩
      refine g_do 29 (by rfl) rfl ?_
      refine c_neq rfl rfl (fun h35 => ?_) (fun h35 => ?_)
      · replace h := iT h35 h
        refine sv (r_pickT (v := .bool true) rfl rfl) ?_
        refine sv (r_assign (v := .bool true) rfl) ?_
        refine s_nil ?_
        refine c_next ?_
        rw [← Option.some.inj h] at hr59
        exact ⟨_, rfl, true, hr59, rfl, rfl, rfl, rfl, hO60, e60⟩
      replace h := iF (Classical.not_not.2 h35) h
      refine sv (r_pickT (v := .bool false) rfl rfl) ?_
      refine sv (r_assign (v := .bool false) rfl) ?_
      refine s_nil ?_
      refine c_next ?_
      rw [← Option.some.inj h] at hr59
      exact ⟨_, rfl, false, hr59, rfl, rfl, rfl, rfl, hO60, e60⟩
    replace h := iF (Int.not_le.2 h28) h
    refine sv (r_move (v := .bool false) rfl) ?_
    refine g_skip 29 (by rfl) rfl (by rfl) ?_
    refine g_skip 29 (by rfl) rfl (by rfl) ?_
    refine g_skip 29 (by rfl) rfl (by rfl) ?_
    refine g_skip 29 (by rfl) rfl (by rfl) ?_
    refine g_skip 29 (by rfl) rfl (by rfl) ?_
    refine g_skip 29 (by rfl) rfl (by rfl) ?_
    refine sv (r_pickF (v := .bool false) rfl rfl) ?_
    refine sv (r_assign (v := .bool false) rfl) ?_
    refine s_nil ?_
    refine c_next ?_
    rw [← Option.some.inj h] at hr59
    exact ⟨_, rfl, false, hr59, rfl, rfl, rfl, rfl, hO48, (Ext.refl _ _)⟩
  intro gg59 w59 hI59
  clear h hr59
  obtain ⟨xc3_t25, h, hsc3_2, hsc3_3, hsc3_4, hsc3_25, hO59, e59⟩ := hI59
  replace h := hG_ hG59 h; clear hG59
  obtain ⟨qq59, rfl⟩ := fr4 hsc3_2 hsc3_3 hsc3_4 hsc3_25
  clear hsc3_2 hsc3_3 hsc3_4 hsc3_25
  rcases Bool.eq_false_or_eq_true (xc3_t25) with hb61 | hb61
  · replace h := iT hb61 h
    refine c_condT (congrArg Value.bool hb61) ?_
    refine c_seq ?_
    have hR0p := (hR0p.ext e59)
    have hR1p := (hR1p.ext e59)
    refine d_startL hO59 (hO59.perm (pmbC (pmbC pmb0))).t 7 (by kernel_rfl) (pk_then (pk_block (pk_then pk_body))) ?_
    intro hP69 wd69 hK69 hO68 e68
    refine dT (i := 0) (listed' := #[I_,O_,O_,O_,O_,O_,O_,O_]) rfl hP69 hK69 (fun wS hS => (rl_all Try.underlying32 rfl I32 rfl (hS.own.get (i := 0) rfl) rfl rfl)) ?_
    refine dT (i := 1) (listed' := #[I_,I_,O_,O_,O_,O_,O_,O_]) rfl hP69 hK69 (fun wS hS => (r_fieldAddr Try.underlying32 rfl I29 (by decide) rfl)) ?_
    refine dT (i := 2) (listed' := #[I_,I_,I_,O_,O_,O_,O_,O_]) rfl hP69 hK69 (fun wS hS => (r_load1 (v := .slice _ _ _) Try.underlying29 rfl rfl (cellB (hS.own.get (i := 0) rfl) rfl rfl))) ?_
    refine dT (i := 3) (listed' := #[I_,I_,I_,I_,O_,O_,O_,O_]) rfl hP69 hK69 (fun wS hS => (r_fieldAddr Try.underlying40 rfl I3 (by decide) rfl)) ?_
    refine dT (i := 4) (listed' := #[I_,I_,I_,I_,I_,O_,O_,O_]) rfl hP69 hK69 (fun wS hS => (r_load1 (v := .int _ _) Try.underlying3 rfl rfl (cellB (hS.own.get (i := 1) rfl) rfl rfl))) ?_
    refine d1 (i := 5) (listed' := #[I_,I_,I_,I_,I_,I_,O_,O_]) ?_
    obtain ⟨y42, hy42, h⟩ := bindE h
    refine s_call cf51 rfl (c_batonref25_There x0.Roster x1.For aP0 mP0 cP0 _ hy42 _ _ hm0p hc0p (hR0p.ext e68) hO68) ?_
    rintro er42 w70 ⟨rfl, hO70, e70⟩
    refine ⟨_, rfl, ?_⟩
    have hK71 : Kept w59 _ _ w70 := Kept.to (e68.trans e70) (hO70.perm (pmbC (pmbC pmb0))).t
    refine d_back hK71 ?_
    refine d1 (i := 6) (listed' := #[I_,I_,I_,I_,I_,I_,I_,O_]) ?_
    refine s_storeN (vs := #[(.int .i64 x0.Epoch), (.int .i64 x0.Owner), (.int .i64 x0.Next), (.slice aP0 mP0 cP0), (.slice aP1 mP1 cP1)]) I32 rfl rfl rfl hO70 (i := 2) rfl (Nat.le_of_ble_eq_true rfl) (List.all_eq_true.1 rfl) ?_
    intro w72 hO72 e72
    have hO73 : Own w72 ((b2, .cells #[(.int .i64 x0.Epoch), (.int .i64 x0.Owner), (.int .i64 x0.Next), (.slice aP0 mP0 cP0), (.slice aP1 mP1 cP1)] 32 (0, 0)) :: ((b3, .cells #[(.int .i64 x1.Kind), (.int .i64 x1.Device), (.int .i64 x1.Request), (.int .i64 x1.Ticket), (.int .i64 x1.For), (.int .i64 x1.Until), (.int .i64 x1.Now)] 40 (0, 0)) :: ((b4, .cells #[(.int .i64 x0.Epoch), (.int .i64 x0.Owner), (.int .i64 x0.Next), (.slice aP0 mP0 cP0), (.slice aP1 mP1 cP1)] 32 (0, 0)) :: L))) := hO72
    have hK75 : Kept w59 _ _ w72 := Kept.to (e68.trans (e70.trans e72)) (hO73.perm (pmbC (pmbC pmb0))).t
    refine d_back hK75 ?_
    refine d1 (i := 7) (listed' := #[I_,I_,I_,I_,I_,I_,I_,I_]) ?_
    refine sv (r_assign (v := .int _ _) rfl) ?_
    refine d_tail rfl ?_
    refine d_done (by kernel_rfl) ?_
    refine c_next ?_
    refine c_ret ?_
    refine r_block ?_
    refine r_then ?_
    refine e_r2 Try.results30 (rv_agg Try.underlying32 rfl I32 rfl (hO73.get (i := 2) rfl) rfl rfl) (rv_tmp (v := .int _ _) rfl) ?_
    obtain ⟨hO76, e76⟩ := hO73.drop1
    obtain ⟨hO77, e77⟩ := hO76.drop1
    obtain ⟨hO78, e78⟩ := hO77.drop1
    rw [← Option.some.inj h]
    exact ⟨aP0, mP0, cP0, aP1, mP1, cP1, rfl, hm0p, hc0p, (hR0p.ext (e68.trans (e70.trans (e72.trans (e76.trans (e77.trans e78)))))), hm1p, hc1p, (hR1p.ext (e68.trans (e70.trans (e72.trans (e76.trans (e77.trans e78)))))), hO78, (e4.trans (e7.trans (e10.trans (e35.trans (e48.trans (e59.trans (e68.trans (e70.trans (e72.trans (e76.trans (e77.trans e78)))))))))))⟩
  replace h := iF (nt hb61) h
  refine c_condF (congrArg Value.bool hb61) ?_
  have hR0p := (hR0p.ext e59)
  have hR1p := (hR1p.ext e59)
  obtain ⟨oc79, G79, hG79, h, hr79⟩ := bindG h
  refine c_cutL hO59 (fun Lc f0 g w' => ∃ (xc4_t43 : Bool), (G79 xc4_t43 = some r) ∧ g 2 = (.pointer (some ⟨b2, 0, none⟩)) ∧ g 3 = (.pointer (some ⟨b3, 0, none⟩)) ∧ g 4 = (.pointer (some ⟨b4, 0, none⟩)) ∧ g 43 = (.bool xc4_t43) ∧ Own w' ((b2, .cells #[(.int .i64 x0.Epoch), (.int .i64 x0.Owner), (.int .i64 x0.Next), (.slice aP0 mP0 cP0), (.slice aP1 mP1 cP1)] 32 (0, 0)) :: ((b3, .cells #[(.int .i64 x1.Kind), (.int .i64 x1.Device), (.int .i64 x1.Request), (.int .i64 x1.Ticket), (.int .i64 x1.For), (.int .i64 x1.Until), (.int .i64 x1.Now)] 40 (0, 0)) :: ((b4, .cells #[(.int .i64 0), (.int .i64 0), (.int .i64 0), (.slice none 0 0), (.slice none 0 0)] 32 (0, 0)) :: L))) ∧ Ext w59 Lc w' ((b2, .cells #[(.int .i64 x0.Epoch), (.int .i64 x0.Owner), (.int .i64 x0.Next), (.slice aP0 mP0 cP0), (.slice aP1 mP1 cP1)] 32 (0, 0)) :: ((b3, .cells #[(.int .i64 x1.Kind), (.int .i64 x1.Device), (.int .i64 x1.Request), (.int .i64 x1.Ticket), (.int .i64 x1.For), (.int .i64 x1.Until), (.int .i64 x1.Now)] 40 (0, 0)) :: ((b4, .cells #[(.int .i64 0), (.int .i64 0), (.int .i64 0), (.slice none 0 0), (.slice none 0 0)] 32 (0, 0)) :: L)))) ?_ ?_
  · skip
    refine c_reg ?_
    refine sv (r_fieldAddr Try.underlying32 rfl I3 (by decide) rfl) ?_
    refine s_load1 (v := .int _ _) Try.underlying3 rfl rfl (cellB (hO59.get (i := 0) rfl) rfl rfl) ?_
    refine c_eql rfl rfl (fun h46 => ?_) (fun h46 => ?_)
    · replace h := iT h46 h
      refine sv (r_assign (v := .bool true) rfl) ?_
      refine s_nil ?_
      refine c_next ?_
      rw [← Option.some.inj h] at hr79
      exact ⟨_, rfl, true, hr79, rfl, rfl, rfl, rfl, hO59, (Ext.refl _ _)⟩
    replace h := iF h46 h
    refine sv (r_assign (v := .bool false) rfl) ?_
    refine s_nil ?_
    refine c_next ?_
    rw [← Option.some.inj h] at hr79
    exact ⟨_, rfl, false, hr79, rfl, rfl, rfl, rfl, hO59, (Ext.refl _ _)⟩
  intro gg79 w79 hI79
  clear h hr79
  obtain ⟨xc4_t43, h, hsc4_2, hsc4_3, hsc4_4, hsc4_43, hO79, e79⟩ := hI79
  replace h := hG_ hG79 h; clear hG79
  obtain ⟨qq79, rfl⟩ := fr4 hsc4_2 hsc4_3 hsc4_4 hsc4_43
  clear hsc4_2 hsc4_3 hsc4_4 hsc4_43
  rcases Bool.eq_false_or_eq_true (xc4_t43) with hb80 | hb80
  · replace h := iT hb80 h
    refine c_condT (congrArg Value.bool hb80) ?_
    refine c_seq ?_
    refine c_reg ?_
    refine s_loadAll Try.underlying32 rfl I32 rfl (hO79.get (i := 0) rfl) rfl rfl ?_
    refine s_storeN (vs := #[(.int .i64 x0.Epoch), (.int .i64 x0.Owner), (.int .i64 x0.Next), (.slice aP0 mP0 cP0), (.slice aP1 mP1 cP1)]) I32 rfl rfl rfl hO79 (i := 2) rfl (Nat.le_of_ble_eq_true rfl) (List.all_eq_true.1 rfl) ?_
    intro w82 hO82 e82
    have hO83 : Own w82 ((b2, .cells #[(.int .i64 x0.Epoch), (.int .i64 x0.Owner), (.int .i64 x0.Next), (.slice aP0 mP0 cP0), (.slice aP1 mP1 cP1)] 32 (0, 0)) :: ((b3, .cells #[(.int .i64 x1.Kind), (.int .i64 x1.Device), (.int .i64 x1.Request), (.int .i64 x1.Ticket), (.int .i64 x1.For), (.int .i64 x1.Until), (.int .i64 x1.Now)] 40 (0, 0)) :: ((b4, .cells #[(.int .i64 x0.Epoch), (.int .i64 x0.Owner), (.int .i64 x0.Next), (.slice aP0 mP0 cP0), (.slice aP1 mP1 cP1)] 32 (0, 0)) :: L))) := hO82
    refine sv (r_assign (v := .int _ _) rfl) ?_
    refine s_nil ?_
    refine c_next ?_
    refine c_ret ?_
    refine r_block ?_
    refine r_then ?_
    refine e_r2 Try.results30 (rv_agg Try.underlying32 rfl I32 rfl (hO83.get (i := 2) rfl) rfl rfl) (rv_tmp (v := .int _ _) rfl) ?_
    obtain ⟨hO85, e85⟩ := hO83.drop1
    obtain ⟨hO86, e86⟩ := hO85.drop1
    obtain ⟨hO87, e87⟩ := hO86.drop1
    rw [← Option.some.inj h]
    exact ⟨aP0, mP0, cP0, aP1, mP1, cP1, rfl, hm0p, hc0p, (hR0p.ext (e79.trans (e82.trans (e85.trans (e86.trans e87))))), hm1p, hc1p, (hR1p.ext (e79.trans (e82.trans (e85.trans (e86.trans e87))))), hO87, (e4.trans (e7.trans (e10.trans (e35.trans (e48.trans (e59.trans (e79.trans (e82.trans (e85.trans (e86.trans e87))))))))))⟩
  replace h := iF (nt hb80) h
  refine c_condF (congrArg Value.bool hb80) ?_
  refine c_skip ?_
  refine x_norm ?_
  refine c_next ?_
  refine c_seq ?_
  have hR0p := (hR0p.ext e79)
  have hR1p := (hR1p.ext e79)
  refine d_startL hO79 (hO79.perm (pmbC (pmbC pmb0))).t 17 (by kernel_rfl) (pk_then pk_body) ?_
  intro hP96 wd96 hK96 hO95 e95
  refine dT (i := 0) (listed' := #[I_,O_,O_,O_,O_,O_,O_,O_,O_,O_,O_,O_,O_,O_,O_,O_,O_,O_]) rfl hP96 hK96 (fun wS hS => (r_fieldAddr Try.underlying32 rfl I30 (by decide) rfl)) ?_
  refine dT (i := 1) (listed' := #[I_,I_,O_,O_,O_,O_,O_,O_,O_,O_,O_,O_,O_,O_,O_,O_,O_,O_]) rfl hP96 hK96 (fun wS hS => (r_load1 (v := .slice _ _ _) Try.underlying30 rfl rfl (cellB (hS.own.get (i := 0) rfl) rfl rfl))) ?_
  refine dT (i := 2) (listed' := #[I_,I_,I_,O_,O_,O_,O_,O_,O_,O_,O_,O_,O_,O_,O_,O_,O_,O_]) rfl hP96 hK96 (fun wS hS => (r_fieldAddr Try.underlying40 rfl I3 (by decide) rfl)) ?_
  refine dT (i := 3) (listed' := #[I_,I_,I_,I_,O_,O_,O_,O_,O_,O_,O_,O_,O_,O_,O_,O_,O_,O_]) rfl hP96 hK96 (fun wS hS => (r_load1 (v := .int _ _) Try.underlying3 rfl rfl (cellB (hS.own.get (i := 1) rfl) rfl rfl))) ?_
  refine dT (i := 5) (listed' := #[I_,I_,I_,I_,O_,I_,O_,O_,O_,O_,O_,O_,O_,O_,O_,O_,O_,O_]) rfl hP96 hK96 (fun wS hS => (r_fieldAddr Try.underlying32 rfl I3 (by decide) rfl)) ?_
  refine dT (i := 6) (listed' := #[I_,I_,I_,I_,O_,I_,I_,O_,O_,O_,O_,O_,O_,O_,O_,O_,O_,O_]) rfl hP96 hK96 (fun wS hS => (r_load1 (v := .int _ _) Try.underlying3 rfl rfl (cellB (hS.own.get (i := 0) rfl) rfl rfl))) ?_
  refine dT (i := 7) (listed' := #[I_,I_,I_,I_,O_,I_,I_,I_,O_,O_,O_,O_,O_,O_,O_,O_,O_,O_]) rfl hP96 hK96 (fun wS hS => (r_fieldAddr Try.underlying40 rfl I3 (by decide) rfl)) ?_
  refine dT (i := 8) (listed' := #[I_,I_,I_,I_,O_,I_,I_,I_,I_,O_,O_,O_,O_,O_,O_,O_,O_,O_]) rfl hP96 hK96 (fun wS hS => (r_load1 (v := .int _ _) Try.underlying3 rfl rfl (cellB (hS.own.get (i := 1) rfl) rfl rfl))) ?_
  refine dT (i := 9) (listed' := #[I_,I_,I_,I_,O_,I_,I_,I_,I_,I_,O_,O_,O_,O_,O_,O_,O_,O_]) rfl hP96 hK96 (fun wS hS => (r_fieldAddr Try.underlying40 rfl I3 (by decide) rfl)) ?_
  refine dT (i := 10) (listed' := #[I_,I_,I_,I_,O_,I_,I_,I_,I_,I_,I_,O_,O_,O_,O_,O_,O_,O_]) rfl hP96 hK96 (fun wS hS => (r_load1 (v := .int _ _) Try.underlying3 rfl rfl (cellB (hS.own.get (i := 1) rfl) rfl rfl))) ?_
  refine dT (i := 11) (listed' := #[I_,I_,I_,I_,O_,I_,I_,I_,I_,I_,I_,I_,O_,O_,O_,O_,O_,O_]) rfl hP96 hK96 (fun wS hS => (r_build (vs := [(0, (.int .i64 x0.Next)), (1, (.int .i64 x1.For)), (2, (.int .i64 x1.Until))]) (cells := #[(.int .i64 x0.Next), (.int .i64 x1.For), (.int .i64 x1.Until)]) I90 pl90 rfl (by kernel_rfl))) ?_
  refine d1 (i := 4) (listed' := #[I_,I_,I_,I_,I_,I_,I_,I_,I_,I_,I_,I_,O_,O_,O_,O_,O_,O_]) ?_
  obtain ⟨y53, hy53, h⟩ := bindE h
  refine s_call cf53 rfl (c_batonref26_Live x0.Tickets x1.Now aP1 mP1 cP1 _ hy53 _ _ hm1p hc1p (hR1p.ext e95) hO95) ?_
  rintro er53 w97 ⟨a53_0, m53_0, c53_0, S53_0, rfl, hm53_0, hS53_0, hO97, e97⟩
  refine ⟨_, rfl, ?_⟩
  have hK98 : Kept w79 _ _ w97 := Kept.to (e95.trans e97) (hO97.r.perm (pmbC (pmbC pmb0))).t
  refine d_back hK98 ?_
  refine d1 (i := 12) (listed' := #[I_,I_,I_,I_,I_,I_,I_,I_,I_,I_,I_,I_,I_,O_,O_,O_,O_,O_]) ?_
  have hR99 := (hS53_0.drop hO97).2.2
  obtain ⟨hO99, e99⟩ := hO97.dropS
  obtain ⟨y61, hy61, h⟩ := bindE h
  refine s_call cf52 rfl (c_batonref26_Issue y53 ({ No := x0.Next, For := x1.For, Until := x1.Until } : T_batonref26_Ticket) a53_0 m53_0 c53_0 _ hy61 _ _ hm53_0 hS53_0.le.1 hR99 hO99) ?_
  rintro er61 w100 ⟨a61_0, m61_0, c61_0, rfl, hm61_0, hc61_0, hR61_0, hO100, e100⟩
  refine ⟨_, rfl, ?_⟩
  have hK101 : Kept w79 _ _ w100 := Kept.to (e95.trans (e97.trans (e99.trans e100))) (hO100.perm (pmbC (pmbC pmb0))).t
  refine d_back hK101 ?_
  refine dT (i := 13) (listed' := #[I_,I_,I_,I_,I_,I_,I_,I_,I_,I_,I_,I_,I_,I_,O_,O_,O_,O_]) rfl hP96 hK101 (fun wS hS => (r_move (v := .tuple _) rfl)) ?_
  refine dT (i := 14) (listed' := #[I_,I_,I_,I_,I_,I_,I_,I_,I_,I_,I_,I_,I_,I_,I_,O_,O_,O_]) rfl hP96 hK101 (fun wS hS => (r_extract rfl rfl)) ?_
  refine dT (i := 15) (listed' := #[I_,I_,I_,I_,I_,I_,I_,I_,I_,I_,I_,I_,I_,I_,I_,I_,O_,O_]) rfl hP96 hK101 (fun wS hS => (r_extract rfl rfl)) ?_
  refine dT (i := 16) (listed' := #[I_,I_,I_,I_,I_,I_,I_,I_,I_,I_,I_,I_,I_,I_,I_,I_,I_,O_]) rfl hP96 hK101 (fun wS hS => (r_assign (v := .slice _ _ _) rfl)) ?_
  refine d1 (i := 17) (listed' := #[I_,I_,I_,I_,I_,I_,I_,I_,I_,I_,I_,I_,I_,I_,I_,I_,I_,I_]) ?_
  refine sv (r_assign (v := .int _ _) rfl) ?_
  refine d_tail rfl ?_
  refine d_done (by kernel_rfl) ?_
  refine c_next ?_
  refine c_seq ?_
  refine c_seq ?_
  refine c_reg ?_
  refine sv (r_move (v := .int _ _) rfl) ?_
  refine c_neq rfl rfl (fun h65 => ?_) (fun h65 => ?_)
  · replace h := iT h65 h
    refine s_nil ?_
    refine c_next ?_
    refine c_condT rfl ?_
    refine c_seq ?_
    refine c_reg ?_
    refine s_loadAll Try.underlying32 rfl I32 rfl (hO100.get (i := 0) rfl) rfl rfl ?_
    refine sv (r_move (v := .int _ _) rfl) ?_
    refine s_storeN (vs := #[(.int .i64 x0.Epoch), (.int .i64 x0.Owner), (.int .i64 x0.Next), (.slice aP0 mP0 cP0), (.slice aP1 mP1 cP1)]) I32 rfl rfl rfl hO100 (i := 2) rfl (Nat.le_of_ble_eq_true rfl) (List.all_eq_true.1 rfl) ?_
    intro w104 hO104 e104
    have hO105 : Own w104 ((b2, .cells #[(.int .i64 x0.Epoch), (.int .i64 x0.Owner), (.int .i64 x0.Next), (.slice aP0 mP0 cP0), (.slice aP1 mP1 cP1)] 32 (0, 0)) :: ((b3, .cells #[(.int .i64 x1.Kind), (.int .i64 x1.Device), (.int .i64 x1.Request), (.int .i64 x1.Ticket), (.int .i64 x1.For), (.int .i64 x1.Until), (.int .i64 x1.Now)] 40 (0, 0)) :: ((b4, .cells #[(.int .i64 x0.Epoch), (.int .i64 x0.Owner), (.int .i64 x0.Next), (.slice aP0 mP0 cP0), (.slice aP1 mP1 cP1)] 32 (0, 0)) :: L))) := hO104
    refine sv (r_assign (v := .int _ _) rfl) ?_
    refine s_nil ?_
    refine c_next ?_
    refine c_ret ?_
    refine r_then ?_
    refine e_r2 Try.results30 (rv_agg Try.underlying32 rfl I32 rfl (hO105.get (i := 2) rfl) rfl rfl) (rv_tmp (v := .int _ _) rfl) ?_
    obtain ⟨hO107, e107⟩ := hO105.drop1
    obtain ⟨hO108, e108⟩ := hO107.drop1
    obtain ⟨hO109, e109⟩ := hO108.drop1
    rw [← Option.some.inj h]
    exact ⟨aP0, mP0, cP0, aP1, mP1, cP1, rfl, hm0p, hc0p, (hR0p.ext (e95.trans (e97.trans (e99.trans (e100.trans (e104.trans (e107.trans (e108.trans e109)))))))), hm1p, hc1p, (hR1p.ext (e95.trans (e97.trans (e99.trans (e100.trans (e104.trans (e107.trans (e108.trans e109)))))))), hO109, (e4.trans (e7.trans (e10.trans (e35.trans (e48.trans (e59.trans (e79.trans (e95.trans (e97.trans (e99.trans (e100.trans (e104.trans (e107.trans (e108.trans e109))))))))))))))⟩
  replace h := iF (Classical.not_not.2 h65) h
  refine s_nil ?_
  refine c_next ?_
  refine c_condF rfl ?_
  refine c_skip ?_
  refine c_next ?_
  refine c_seq ?_
  refine c_reg ?_
  refine sv (r_fieldAddr Try.underlying32 rfl I3 (by decide) rfl) ?_
  refine s_load1 (v := .int _ _) Try.underlying3 rfl rfl (cellB (hO100.get (i := 0) rfl) rfl rfl) ?_
  refine sv (r_fieldAddr Try.underlying32 rfl I3 (by decide) rfl) ?_
  refine s_load1 (v := .int _ _) Try.underlying3 rfl rfl (cellB (hO100.get (i := 0) rfl) rfl rfl) ?_
  refine sv (r_fieldAddr Try.underlying32 rfl I3 (by decide) rfl) ?_
  refine s_load1 (v := .int _ _) Try.underlying3 rfl rfl (cellB (hO100.get (i := 0) rfl) rfl rfl) ?_
  refine sv (r_addI (a := x0.Next) (b := 1) rfl rfl) ?_
  refine sv (r_fieldAddr Try.underlying32 rfl I29 (by decide) rfl) ?_
  refine s_load1 (v := .slice _ _ _) Try.underlying29 rfl rfl (cellB (hO100.get (i := 0) rfl) rfl rfl) ?_
  refine sv (r_move (v := .slice _ _ _) rfl) ?_
  refine sv (r_build (vs := [(0, (.int .i64 x0.Epoch)), (1, (.int .i64 x0.Owner)), (2, (.int .i64 ((w64 (x0.Next + 1))))), (3, (.slice aP0 mP0 cP0)), (4, (.slice a61_0 m61_0 c61_0))]) (cells := #[(.int .i64 x0.Epoch), (.int .i64 x0.Owner), (.int .i64 ((w64 (x0.Next + 1)))), (.slice aP0 mP0 cP0), (.slice a61_0 m61_0 c61_0)]) I32 pl32 rfl (by kernel_rfl)) ?_
  refine s_storeN (vs := #[(.int .i64 x0.Epoch), (.int .i64 x0.Owner), (.int .i64 ((w64 (x0.Next + 1)))), (.slice aP0 mP0 cP0), (.slice a61_0 m61_0 c61_0)]) I32 rfl rfl rfl hO100 (i := 2) rfl (Nat.le_of_ble_eq_true rfl) (List.all_eq_true.1 rfl) ?_
  intro w110 hO110 e110
  have hO111 : Own w110 ((b2, .cells #[(.int .i64 x0.Epoch), (.int .i64 x0.Owner), (.int .i64 x0.Next), (.slice aP0 mP0 cP0), (.slice aP1 mP1 cP1)] 32 (0, 0)) :: ((b3, .cells #[(.int .i64 x1.Kind), (.int .i64 x1.Device), (.int .i64 x1.Request), (.int .i64 x1.Ticket), (.int .i64 x1.For), (.int .i64 x1.Until), (.int .i64 x1.Now)] 40 (0, 0)) :: ((b4, .cells #[(.int .i64 x0.Epoch), (.int .i64 x0.Owner), (.int .i64 ((w64 (x0.Next + 1)))), (.slice aP0 mP0 cP0), (.slice a61_0 m61_0 c61_0)] 32 (0, 0)) :: L))) := hO110
  refine sv (r_assign (v := .int _ _) rfl) ?_
  refine s_nil ?_
  refine c_next ?_
  refine c_ret ?_
  refine e_r2 Try.results30 (rv_agg Try.underlying32 rfl I32 rfl (hO111.get (i := 2) rfl) rfl rfl) (rv_tmp (v := .int _ _) rfl) ?_
  obtain ⟨hO113, e113⟩ := hO111.drop1
  obtain ⟨hO114, e114⟩ := hO113.drop1
  obtain ⟨hO115, e115⟩ := hO114.drop1
  rw [← Option.some.inj h]
  exact ⟨aP0, mP0, cP0, a61_0, m61_0, c61_0, rfl, hm0p, hc0p, (hR0p.ext (e95.trans (e97.trans (e99.trans (e100.trans (e110.trans (e113.trans (e114.trans e115)))))))), hm61_0, hc61_0, (hR61_0.ext (e110.trans (e113.trans (e114.trans e115)))), hO115, (e4.trans (e7.trans (e10.trans (e35.trans (e48.trans (e59.trans (e79.trans (e95.trans (e97.trans (e99.trans (e100.trans (e110.trans (e113.trans (e114.trans e115))))))))))))))⟩
theorem c_batonref26_Use (x0 : (List T_batonref26_Ticket)) (x1 : Int) (x2 : Int) (x3 : Int) (aP0 : Option Addr) (mP0 cP0 : Nat)  (r : Int) (h : F_batonref26_Use x0 x1 x2 x3 = some r) (w : World) (L : Hp) (hm0p : x0.length = mP0) (hc0p : mP0 ≤ cP0) (hR0p : Rd w L aP0 (fl e_batonref26_Ticket x0)) (hO : Own w L) :
    Calls Try.prog 31 #[(.slice aP0 mP0 cP0), (.int .i64 x1), (.int .i64 x2), (.int .i64 x3)] w fun en w' => en = .returned (.int .i64 r) ∧ Own w' L ∧ Ext w L w' L := by
  unfold F_batonref26_Use at h
  refine enter (n := 40) [(.slice aP0 mP0 cP0), (.int .i64 x1), (.int .i64 x2), (.int .i64 x3)] Try.func31 rfl rfl (Nat.le_of_ble_eq_true rfl) ?_
  refine c_seq ?_
  refine c_reg ?_
  refine sv (r_assign (v := .int _ _) rfl) ?_
  refine s_nil ?_
  refine c_next ?_
  refine c_seq ?_
  refine c_seq ?_
  refine c_reg ?_
  refine sv (r_assign (v := .int _ _) rfl) ?_
  refine s_nil ?_
  refine c_next ?_
  refine c_block ?_
  obtain ⟨kl13, hkl13⟩ := loop_iff.1 h
  clear h
  refine c_loopL hO (fun Lc f0 m g wl => ∃ (xl1_t9 : Int), (iterK (batonref26_Use_l1 x0 x1 x2 x3) m xl1_t9 = some r) ∧ g 0 = (.slice aP0 mP0 cP0) ∧ g 1 = (.int .i64 x1) ∧ g 2 = (.int .i64 x2) ∧ g 3 = (.int .i64 x3) ∧ g 9 = (.int .i64 xl1_t9) ∧ Own wl L ∧ Ext w Lc wl L) kl13 ?_ ?_
  · skip
    exact ⟨0, hkl13, rfl, rfl, rfl, rfl, rfl, hO, (Ext.refl _ _)⟩
  clear hkl13
  intro mm13 gg13 w13 hI13
  obtain ⟨xl1_t9, hkl13, hsl1_0, hsl1_1, hsl1_2, hsl1_3, hsl1_9, hO13, e13⟩ := hI13
  obtain ⟨kl13, yl13, rfl, h, hyl13⟩ := iterE hkl13
  clear hkl13
  obtain ⟨qq13, rfl⟩ := fr5 hsl1_0 hsl1_1 hsl1_2 hsl1_3 hsl1_9
  clear hsl1_0 hsl1_1 hsl1_2 hsl1_3 hsl1_9
  refine c_seq ?_
  have hR0p := (hR0p.ext e13)
  obtain ⟨oc14, G14, hG14, h, hr14⟩ := bindG h
  refine c_cutL hO13 (fun Lc f0 g w' => ∃ (xc2_t14 : Bool), (G14 xc2_t14 = some yl13) ∧ g 0 = (.slice aP0 mP0 cP0) ∧ g 1 = (.int .i64 x1) ∧ g 2 = (.int .i64 x2) ∧ g 3 = (.int .i64 x3) ∧ g 9 = (.int .i64 xl1_t9) ∧ g 14 = (.bool xc2_t14) ∧ Own w' L ∧ Ext w13 Lc w' L) ?_ ?_
  · skip
    refine c_reg ?_
    refine sv (r_move (v := .int _ _) rfl) ?_
    refine sv (r_move (v := .slice _ _ _) rfl) ?_
    refine sv (r_lenL (xs := x0) Try.underlying30 rfl hm0p) ?_
    refine c_lss rfl rfl (fun h14 => ?_) (fun h14 => ?_)
    · replace h := iT h14 h
      refine s_nil ?_
      refine c_next ?_
      rw [← Option.some.inj h] at hr14
      exact ⟨_, rfl, true, hr14, rfl, rfl, rfl, rfl, rfl, rfl, hO13, (Ext.refl _ _)⟩
    replace h := iF (Int.not_lt.2 h14) h
    refine s_nil ?_
    refine c_next ?_
    rw [← Option.some.inj h] at hr14
    exact ⟨_, rfl, false, hr14, rfl, rfl, rfl, rfl, rfl, rfl, hO13, (Ext.refl _ _)⟩
  intro gg14 w14 hI14
  clear h hr14
  obtain ⟨xc2_t14, h, hsc2_0, hsc2_1, hsc2_2, hsc2_3, hsc2_9, hsc2_14, hO14, e14⟩ := hI14
  replace h := hG_ hG14 h; clear hG14
  obtain ⟨qq14, rfl⟩ := fr6 hsc2_0 hsc2_1 hsc2_2 hsc2_3 hsc2_9 hsc2_14
  clear hsc2_0 hsc2_1 hsc2_2 hsc2_3 hsc2_9 hsc2_14
  rcases Bool.eq_false_or_eq_true (xc2_t14) with hb15 | hb15
  · replace h := iT hb15 h
    refine c_condT (congrArg Value.bool hb15) ?_
    refine c_skip ?_
    refine c_next ?_
    refine c_seq ?_
    refine c_block ?_
    refine c_seq ?_
    refine c_reg ?_
    refine sv (r_move (v := .slice _ _ _) rfl) ?_
    refine sv (r_move (v := .int _ _) rfl) ?_
    obtain ⟨y19, hy19, h⟩ := bindE h
    refine a_idx (e := e_batonref26_Ticket) (xs := x0) (i := xl1_t9) Try.underlying30 I90 rfl rfl (Rd.cs (hR0p.ext e14)) e_batonref26_Ticket_len (by decide) hm0p hy19 ?_
    intro p19 hp19
    refine s_loadN (cs := [(.int .i64 y19.No), (.int .i64 y19.For), (.int .i64 y19.Until)]) Try.underlying90 rfl I90 rfl rfl hp19 ?_
    refine s_alloc I90 hO14 ?_
    intro b10 w18 hz10 hl10 hO18 e18
    have hO19 : Own w18 ((b10, .cells #[(.int .i64 0), (.int .i64 0), (.int .i64 0)] 90 (0, 0)) :: L) := hO18
    refine s_storeN (vs := #[(.int .i64 y19.No), (.int .i64 y19.For), (.int .i64 y19.Until)]) I90 rfl rfl rfl hO19 (i := 0) rfl (Nat.le_of_ble_eq_true rfl) (List.all_eq_true.1 rfl) ?_
    intro w21 hO21 e21
    have hO22 : Own w21 ((b10, .cells #[(.int .i64 y19.No), (.int .i64 y19.For), (.int .i64 y19.Until)] 90 (0, 0)) :: L) := hO21
    refine s_nil ?_
    refine c_next ?_
    refine c_seq ?_
    have hR0p := (hR0p.ext (e14.trans (e18.trans e21)))
    obtain ⟨oc24, G24, hG24, h, hr24⟩ := bindG h
    refine c_cutL hO22 (fun Lc f0 g w' => ∃ (xc3_t35 : Bool), (G24 xc3_t35 = some yl13) ∧ g 0 = (.slice aP0 mP0 cP0) ∧ g 1 = (.int .i64 x1) ∧ g 2 = (.int .i64 x2) ∧ g 3 = (.int .i64 x3) ∧ g 9 = (.int .i64 xl1_t9) ∧ g 10 = (.pointer (some ⟨b10, 0, none⟩)) ∧ g 35 = (.bool xc3_t35) ∧ Own w' ((b10, .cells #[(.int .i64 y19.No), (.int .i64 y19.For), (.int .i64 y19.Until)] 90 (0, 0)) :: L) ∧ Ext w21 Lc w' ((b10, .cells #[(.int .i64 y19.No), (.int .i64 y19.For), (.int .i64 y19.Until)] 90 (0, 0)) :: L)) ?_ ?_
    · skip
      refine c_reg ?_
      refine sv (r_fieldAddr Try.underlying90 rfl I3 (by decide) rfl) ?_
      refine s_load1 (v := .int _ _) Try.underlying3 rfl rfl (cellB (hO22.get (i := 0) rfl) rfl rfl) ?_
      refine sv (r_move (v := .int _ _) rfl) ?_
      refine c_neq rfl rfl (fun h24 => ?_) (fun h24 => ?_)
      · replace h := iT h24 h
        refine sv (r_move (v := .bool true) rfl) ?_
        refine g_skip 25 (by rfl) rfl (by rfl) ?_
        refine g_skip 25 (by rfl) rfl (by rfl) ?_
        refine g_skip 25 (by rfl) rfl (by rfl) ?_
        refine g_skip 25 (by rfl) rfl (by rfl) ?_
        refine g_skipU 29 (by rfl) rfl ?_
        refine g_skipU 29 (by rfl) rfl ?_
        refine g_skipU 29 (by rfl) rfl ?_
        refine g_skipU 29 (by rfl) rfl ?_
        refine g_skip 25 (by rfl) rfl (by rfl) ?_
        refine sv (r_pickT (v := .bool true) rfl rfl) ?_
        refine s_nil ?_
        refine c_next ?_
        rw [← Option.some.inj h] at hr24
        exact ⟨_, rfl, true, hr24, rfl, rfl, rfl, rfl, rfl, rfl, rfl, hO22, (Ext.refl _ _)⟩
      replace h := iF (Classical.not_not.2 h24) h
      refine sv (r_move (v := .bool false) rfl) ?_
      refine g_do 25 (by rfl) rfl ?_
      refine sv (r_fieldAddr Try.underlying90 rfl I3 (by decide) rfl) ?_
      refine g_do 25 (by rfl) rfl ?_
      refine s_load1 (v := .int _ _) Try.underlying3 rfl rfl (cellB (hO22.get (i := 0) rfl) rfl rfl) ?_
      refine g_do 25 (by rfl) rfl ?_
      refine c_neq rfl rfl (fun h28 => ?_) (fun h28 => ?_)
      · replace h := iT h28 h
        refine g_do 25 (by rfl) rfl ?_
        refine sv (r_move (v := .bool true) rfl) ?_
        refine g_do 29 (by rfl) rfl ?_
        refine sv (r_fieldAddr Try.underlying90 rfl I3 (by decide) rfl) ?_
        refine g_do 29 (by rfl) rfl ?_
        refine s_load1 (v := .int _ _) Try.underlying3 rfl rfl (cellB (hO22.get (i := 0) rfl) rfl rfl) ?_
        refine g_do 29 (by rfl) rfl ?_
        refine sv (r_move (v := .int _ _) rfl) ?_
        refine g_do 29 (by rfl) rfl ?_
        refine c_neq rfl rfl (fun h33 => ?_) (fun h33 => ?_)
        · replace h := iT h33 h
          refine g_do 25 (by rfl) rfl ?_
          refine sv (r_pickT (v := .bool true) rfl rfl) ?_
          refine sv (r_pickF (v := .bool true) rfl rfl) ?_
          refine s_nil ?_
          refine c_next ?_
          rw [← Option.some.inj h] at hr24
          exact ⟨_, rfl, true, hr24, rfl, rfl, rfl, rfl, rfl, rfl, rfl, hO22, (Ext.refl _ _)⟩
        replace h := iF (Classical.not_not.2 h33) h
        refine g_do 25 (by rfl) rfl ?_
        refine sv (r_pickT (v := .bool false) rfl rfl) ?_
        refine sv (r_pickF (v := .bool false) rfl rfl) ?_
        refine s_nil ?_
        refine c_next ?_
        rw [← Option.some.inj h] at hr24
        exact ⟨_, rfl, false, hr24, rfl, rfl, rfl, rfl, rfl, rfl, rfl, hO22, (Ext.refl _ _)⟩
      replace h := iF (Classical.not_not.2 h28) h
      refine g_do 25 (by rfl) rfl ?_
      refine sv (r_move (v := .bool false) rfl) ?_
      refine g_skip 29 (by rfl) rfl (by rfl) ?_
      refine g_skip 29 (by rfl) rfl (by rfl) ?_
      refine g_skip 29 (by rfl) rfl (by rfl) ?_
      refine g_skip 29 (by rfl) rfl (by rfl) ?_
      refine g_do 25 (by rfl) rfl ?_
      refine sv (r_pickF (v := .bool false) rfl rfl) ?_
      refine sv (r_pickF (v := .bool false) rfl rfl) ?_
      refine s_nil ?_
      refine c_next ?_
      rw [← Option.some.inj h] at hr24
      exact ⟨_, rfl, false, hr24, rfl, rfl, rfl, rfl, rfl, rfl, rfl, hO22, (Ext.refl _ _)⟩
    intro gg24 w24 hI24
    clear h hr24
    obtain ⟨xc3_t35, h, hsc3_0, hsc3_1, hsc3_2, hsc3_3, hsc3_9, hsc3_10, hsc3_35, hO24, e24⟩ := hI24
    replace h := hG_ hG24 h; clear hG24
    obtain ⟨qq24, rfl⟩ := fr7 hsc3_0 hsc3_1 hsc3_2 hsc3_3 hsc3_9 hsc3_10 hsc3_35
    clear hsc3_0 hsc3_1 hsc3_2 hsc3_3 hsc3_9 hsc3_10 hsc3_35
    rcases Bool.eq_false_or_eq_true (xc3_t35) with hb25 | hb25
    · replace h := iT hb25 h
      refine c_condT (congrArg Value.bool hb25) ?_
      refine c_exit ?_
      refine x_then ?_
      refine x_same ?_
      refine c_next ?_
      refine c_reg ?_
      refine sv (r_move (v := .int _ _) rfl) ?_
      refine sv (r_addI (a := xl1_t9) (b := 1) rfl rfl) ?_
      refine sv (r_assign (v := .int _ _) rfl) ?_
      refine s_nil ?_
      refine l_end (m' := kl13) (Nat.lt_succ_self _) ?_
      rw [← Option.some.inj h] at hyl13
      obtain ⟨hO26, e26⟩ := hO24.drop1
      exact ⟨(w64 (xl1_t9 + 1)), hyl13, rfl, rfl, rfl, rfl, rfl, hO26, (e13.trans (e14.trans (e18.trans (e21.trans (e24.trans e26)))))⟩
    replace h := iF (nt hb25) h
    refine c_condF (congrArg Value.bool hb25) ?_
    refine c_skip ?_
    refine c_next ?_
    refine c_seq ?_
    refine c_seq ?_
    refine c_reg ?_
    refine sv (r_fieldAddr Try.underlying90 rfl I3 (by decide) rfl) ?_
    refine s_load1 (v := .int _ _) Try.underlying3 rfl rfl (cellB (hO24.get (i := 0) rfl) rfl rfl) ?_
    refine sv (r_move (v := .int _ _) rfl) ?_
    refine c_lss rfl rfl (fun h39 => ?_) (fun h39 => ?_)
    · replace h := iT h39 h
      refine s_nil ?_
      refine c_next ?_
      refine c_condT rfl ?_
      refine c_seq ?_
      refine c_reg ?_
      refine sv (r_assign (v := .int _ _) rfl) ?_
      refine s_nil ?_
      refine c_next ?_
      refine c_ret ?_
      refine r_then ?_
      refine r_block ?_
      refine r_then ?_
      refine r_then ?_
      refine r_block ?_
      refine r_then ?_
      replace h := crossE h hyl13
      refine e_1 (v := .int _ _) Try.results31 rfl ?_
      obtain ⟨hO27, e27⟩ := hO24.drop1
      rw [← Option.some.inj h]
      exact ⟨rfl, hO27, (e13.trans (e14.trans (e18.trans (e21.trans (e24.trans e27)))))⟩
    replace h := iF (Int.not_lt.2 h39) h
    refine s_nil ?_
    refine c_next ?_
    refine c_condF rfl ?_
    refine c_skip ?_
    refine c_next ?_
    refine c_seq ?_
    refine c_reg ?_
    refine sv (r_assign (v := .int _ _) rfl) ?_
    refine s_nil ?_
    refine c_next ?_
    refine c_ret ?_
    refine r_block ?_
    refine r_then ?_
    refine r_then ?_
    refine r_block ?_
    refine r_then ?_
    replace h := crossE h hyl13
    refine e_1 (v := .int _ _) Try.results31 rfl ?_
    obtain ⟨hO28, e28⟩ := hO24.drop1
    rw [← Option.some.inj h]
    exact ⟨rfl, hO28, (e13.trans (e14.trans (e18.trans (e21.trans (e24.trans e28)))))⟩
  replace h := iF (nt hb15) h
  refine c_condF (congrArg Value.bool hb15) ?_
  refine c_exit ?_
  refine x_then ?_
  refine x_then ?_
  refine x_same ?_
  replace h := crossE h hyl13
  refine c_next ?_
  refine c_seq ?_
  refine c_reg ?_
  refine sv (r_assign (v := .int _ _) rfl) ?_
  refine s_nil ?_
  refine c_next ?_
  refine c_ret ?_
  refine e_1 (v := .int _ _) Try.results31 rfl ?_
  rw [← Option.some.inj h]
  exact ⟨rfl, hO14, (e13.trans e14)⟩
theorem c_batonref27_Do (x0 : T_batonref27_State) (x1 : T_batonref27_Op) (aP0 : Option Addr) (mP0 cP0 : Nat) (aP1 : Option Addr) (mP1 cP1 : Nat)  (r : (T_batonref27_State × Int)) (h : F_batonref27_Do x0 x1 = some r) (w : World) (L : Hp) (hm0p : x0.Roster.length = mP0) (hc0p : mP0 ≤ cP0) (hR0p : Rd w L aP0 (fl e_batonref25_Device x0.Roster)) (hm1p : x0.Tickets.length = mP1) (hc1p : mP1 ≤ cP1) (hR1p : Rd w L aP1 (fl e_batonref26_Ticket x0.Tickets)) (hO : Own w L) :
    Calls Try.prog 10 #[(.agg #[(.int .i64 x0.Epoch), (.int .i64 x0.Owner), (.int .i64 x0.Next), (.slice aP0 mP0 cP0), (.slice aP1 mP1 cP1)]), (.agg #[(.int .i64 x1.Kind), (.int .i64 x1.Device), (.int .i64 x1.Request), (.int .i64 x1.Ticket), (.int .i64 x1.For), (.int .i64 x1.Until), (.int .i64 x1.Now)])] w fun en w' => ∃ (ra0 : Option Addr) (rm0 rc0 : Nat) (ra1 : Option Addr) (rm1 rc1 : Nat), en = .returned (.tuple #[(.agg #[(.int .i64 r.1.Epoch), (.int .i64 r.1.Owner), (.int .i64 r.1.Next), (.slice ra0 rm0 rc0), (.slice ra1 rm1 rc1)]), (.int .i64 r.2)]) ∧ r.1.Roster.length = rm0 ∧ rm0 ≤ rc0 ∧ Rd w' L ra0 (fl e_batonref25_Device r.1.Roster) ∧ r.1.Tickets.length = rm1 ∧ rm1 ≤ rc1 ∧ Rd w' L ra1 (fl e_batonref26_Ticket r.1.Tickets) ∧ Own w' L ∧ Ext w L w' L := by
  unfold F_batonref27_Do at h
  refine enter (n := 117) [(.agg #[(.int .i64 x0.Epoch), (.int .i64 x0.Owner), (.int .i64 x0.Next), (.slice aP0 mP0 cP0), (.slice aP1 mP1 cP1)]), (.agg #[(.int .i64 x1.Kind), (.int .i64 x1.Device), (.int .i64 x1.Request), (.int .i64 x1.Ticket), (.int .i64 x1.For), (.int .i64 x1.Until), (.int .i64 x1.Now)])] Try.func10 rfl rfl (Nat.le_of_ble_eq_true rfl) ?_
  refine c_seq ?_
  refine c_reg ?_
  refine s_box (v := (.agg #[(.int .i64 x0.Epoch), (.int .i64 x0.Owner), (.int .i64 x0.Next), (.slice aP0 mP0 cP0), (.slice aP1 mP1 cP1)])) rfl hO ?_
  intro b2 w4 hz2 hl2 hO4 e4
  have hO5 : Own w4 ((b2, .cells #[(.int .i64 x0.Epoch), (.int .i64 x0.Owner), (.int .i64 x0.Next), (.slice aP0 mP0 cP0), (.slice aP1 mP1 cP1)] 32 (0, 0)) :: L) := hO4
  refine s_box (v := (.agg #[(.int .i64 x1.Kind), (.int .i64 x1.Device), (.int .i64 x1.Request), (.int .i64 x1.Ticket), (.int .i64 x1.For), (.int .i64 x1.Until), (.int .i64 x1.Now)])) rfl hO5 ?_
  intro b3 w7 hz3 hl3 hO7 e7
  have hO8 : Own w7 ((b3, .cells #[(.int .i64 x1.Kind), (.int .i64 x1.Device), (.int .i64 x1.Request), (.int .i64 x1.Ticket), (.int .i64 x1.For), (.int .i64 x1.Until), (.int .i64 x1.Now)] 40 (0, 0)) :: ((b2, .cells #[(.int .i64 x0.Epoch), (.int .i64 x0.Owner), (.int .i64 x0.Next), (.slice aP0 mP0 cP0), (.slice aP1 mP1 cP1)] 32 (0, 0)) :: L)) := hO7
  refine s_alloc I32 hO8 ?_
  intro b4 w10 hz4 hl4 hO10 e10
  have hO11 : Own w10 ((b4, .cells #[(.int .i64 0), (.int .i64 0), (.int .i64 0), (.slice none 0 0), (.slice none 0 0)] 32 (0, 0)) :: ((b3, .cells #[(.int .i64 x1.Kind), (.int .i64 x1.Device), (.int .i64 x1.Request), (.int .i64 x1.Ticket), (.int .i64 x1.For), (.int .i64 x1.Until), (.int .i64 x1.Now)] 40 (0, 0)) :: ((b2, .cells #[(.int .i64 x0.Epoch), (.int .i64 x0.Owner), (.int .i64 x0.Next), (.slice aP0 mP0 cP0), (.slice aP1 mP1 cP1)] 32 (0, 0)) :: L))) := hO10
  refine sv (r_assign (v := .int _ _) rfl) ?_
  refine s_nil ?_
  refine c_next ?_
  refine c_seq ?_
  refine c_reg ?_
  refine s_loadAll Try.underlying32 rfl I32 rfl (hO11.get (i := 2) rfl) rfl rfl ?_
  refine s_alloc I32 hO11 ?_
  intro b6 w15 hz6 hl6 hO15 e15
  have hO16 : Own w15 ((b6, .cells #[(.int .i64 0), (.int .i64 0), (.int .i64 0), (.slice none 0 0), (.slice none 0 0)] 32 (0, 0)) :: ((b4, .cells #[(.int .i64 0), (.int .i64 0), (.int .i64 0), (.slice none 0 0), (.slice none 0 0)] 32 (0, 0)) :: ((b3, .cells #[(.int .i64 x1.Kind), (.int .i64 x1.Device), (.int .i64 x1.Request), (.int .i64 x1.Ticket), (.int .i64 x1.For), (.int .i64 x1.Until), (.int .i64 x1.Now)] 40 (0, 0)) :: ((b2, .cells #[(.int .i64 x0.Epoch), (.int .i64 x0.Owner), (.int .i64 x0.Next), (.slice aP0 mP0 cP0), (.slice aP1 mP1 cP1)] 32 (0, 0)) :: L)))) := hO15
  refine s_storeN (vs := #[(.int .i64 x0.Epoch), (.int .i64 x0.Owner), (.int .i64 x0.Next), (.slice aP0 mP0 cP0), (.slice aP1 mP1 cP1)]) I32 rfl rfl rfl hO16 (i := 0) rfl (Nat.le_of_ble_eq_true rfl) (List.all_eq_true.1 rfl) ?_
  intro w18 hO18 e18
  have hO19 : Own w18 ((b6, .cells #[(.int .i64 x0.Epoch), (.int .i64 x0.Owner), (.int .i64 x0.Next), (.slice aP0 mP0 cP0), (.slice aP1 mP1 cP1)] 32 (0, 0)) :: ((b4, .cells #[(.int .i64 0), (.int .i64 0), (.int .i64 0), (.slice none 0 0), (.slice none 0 0)] 32 (0, 0)) :: ((b3, .cells #[(.int .i64 x1.Kind), (.int .i64 x1.Device), (.int .i64 x1.Request), (.int .i64 x1.Ticket), (.int .i64 x1.For), (.int .i64 x1.Until), (.int .i64 x1.Now)] 40 (0, 0)) :: ((b2, .cells #[(.int .i64 x0.Epoch), (.int .i64 x0.Owner), (.int .i64 x0.Next), (.slice aP0 mP0 cP0), (.slice aP1 mP1 cP1)] 32 (0, 0)) :: L)))) := hO18
  refine sv (r_assign (v := .int _ _) rfl) ?_
  refine s_nil ?_
  refine c_next ?_
  have hR0p := (hR0p.ext (e4.trans (e7.trans (e10.trans (e15.trans e18)))))
  have hR1p := (hR1p.ext (e4.trans (e7.trans (e10.trans (e15.trans e18)))))
  obtain ⟨oc99, G99, hG99, h, hr99⟩ := bindG h
  refine c_cutL hO19 (fun Lc f0 g w' => ∃ (xc6_t7 : Int) (xc6_b6 : T_batonref27_State) (ac6_0 : Option Addr) (mc6_0 cc6_0 : Nat) (ac6_1 : Option Addr) (mc6_1 cc6_1 : Nat), (G99 (xc6_t7, xc6_b6) = some r) ∧ g 2 = (.pointer (some ⟨b2, 0, none⟩)) ∧ g 4 = (.pointer (some ⟨b4, 0, none⟩)) ∧ g 6 = (.pointer (some ⟨b6, 0, none⟩)) ∧ g 7 = (.int .i64 xc6_t7) ∧ xc6_b6.Roster.length = mc6_0 ∧ mc6_0 ≤ cc6_0 ∧ Rd w' ((b2, .cells #[(.int .i64 x0.Epoch), (.int .i64 x0.Owner), (.int .i64 x0.Next), (.slice aP0 mP0 cP0), (.slice aP1 mP1 cP1)] 32 (0, 0)) :: ((b4, .cells #[(.int .i64 0), (.int .i64 0), (.int .i64 0), (.slice none 0 0), (.slice none 0 0)] 32 (0, 0)) :: ((b6, .cells #[(.int .i64 xc6_b6.Epoch), (.int .i64 xc6_b6.Owner), (.int .i64 xc6_b6.Next), (.slice ac6_0 mc6_0 cc6_0), (.slice ac6_1 mc6_1 cc6_1)] 32 (0, 0)) :: L))) ac6_0 (fl e_batonref25_Device xc6_b6.Roster) ∧ xc6_b6.Tickets.length = mc6_1 ∧ mc6_1 ≤ cc6_1 ∧ Rd w' ((b2, .cells #[(.int .i64 x0.Epoch), (.int .i64 x0.Owner), (.int .i64 x0.Next), (.slice aP0 mP0 cP0), (.slice aP1 mP1 cP1)] 32 (0, 0)) :: ((b4, .cells #[(.int .i64 0), (.int .i64 0), (.int .i64 0), (.slice none 0 0), (.slice none 0 0)] 32 (0, 0)) :: ((b6, .cells #[(.int .i64 xc6_b6.Epoch), (.int .i64 xc6_b6.Owner), (.int .i64 xc6_b6.Next), (.slice ac6_0 mc6_0 cc6_0), (.slice ac6_1 mc6_1 cc6_1)] 32 (0, 0)) :: L))) ac6_1 (fl e_batonref26_Ticket xc6_b6.Tickets) ∧ Own w' ((b2, .cells #[(.int .i64 x0.Epoch), (.int .i64 x0.Owner), (.int .i64 x0.Next), (.slice aP0 mP0 cP0), (.slice aP1 mP1 cP1)] 32 (0, 0)) :: ((b4, .cells #[(.int .i64 0), (.int .i64 0), (.int .i64 0), (.slice none 0 0), (.slice none 0 0)] 32 (0, 0)) :: ((b6, .cells #[(.int .i64 xc6_b6.Epoch), (.int .i64 xc6_b6.Owner), (.int .i64 xc6_b6.Next), (.slice ac6_0 mc6_0 cc6_0), (.slice ac6_1 mc6_1 cc6_1)] 32 (0, 0)) :: L))) ∧ Ext w18 Lc w' ((b2, .cells #[(.int .i64 x0.Epoch), (.int .i64 x0.Owner), (.int .i64 x0.Next), (.slice aP0 mP0 cP0), (.slice aP1 mP1 cP1)] 32 (0, 0)) :: ((b4, .cells #[(.int .i64 0), (.int .i64 0), (.int .i64 0), (.slice none 0 0), (.slice none 0 0)] 32 (0, 0)) :: ((b6, .cells #[(.int .i64 xc6_b6.Epoch), (.int .i64 xc6_b6.Owner), (.int .i64 xc6_b6.Next), (.slice ac6_0 mc6_0 cc6_0), (.slice ac6_1 mc6_1 cc6_1)] 32 (0, 0)) :: L)))) ?_ ?_
  · skip
    refine c_seq ?_
    refine c_reg ?_
    refine sv (r_fieldAddr Try.underlying40 rfl I3 (by decide) rfl) ?_
    refine s_load1 (v := .int _ _) Try.underlying3 rfl rfl (cellB (hO19.get (i := 2) rfl) rfl rfl) ?_
    refine s_nil ?_
    refine c_next ?_
    refine c_block ?_
    obtain ⟨oc100, G100, hG100, h, hr100⟩ := bindG h
    refine c_cutL hO19 (fun Lc f0 g w' => ∃ (xc1_t11 : Bool), (G100 xc1_t11 = some oc99) ∧ g 2 = (.pointer (some ⟨b2, 0, none⟩)) ∧ g 3 = (.pointer (some ⟨b3, 0, none⟩)) ∧ g 4 = (.pointer (some ⟨b4, 0, none⟩)) ∧ g 6 = (.pointer (some ⟨b6, 0, none⟩)) ∧ g 10 = (.int .i64 x1.Kind) ∧ g 11 = (.bool xc1_t11) ∧ Own w' ((b2, .cells #[(.int .i64 x0.Epoch), (.int .i64 x0.Owner), (.int .i64 x0.Next), (.slice aP0 mP0 cP0), (.slice aP1 mP1 cP1)] 32 (0, 0)) :: ((b3, .cells #[(.int .i64 x1.Kind), (.int .i64 x1.Device), (.int .i64 x1.Request), (.int .i64 x1.Ticket), (.int .i64 x1.For), (.int .i64 x1.Until), (.int .i64 x1.Now)] 40 (0, 0)) :: ((b4, .cells #[(.int .i64 0), (.int .i64 0), (.int .i64 0), (.slice none 0 0), (.slice none 0 0)] 32 (0, 0)) :: ((b6, .cells #[(.int .i64 x0.Epoch), (.int .i64 x0.Owner), (.int .i64 x0.Next), (.slice aP0 mP0 cP0), (.slice aP1 mP1 cP1)] 32 (0, 0)) :: L)))) ∧ Ext w18 Lc w' ((b2, .cells #[(.int .i64 x0.Epoch), (.int .i64 x0.Owner), (.int .i64 x0.Next), (.slice aP0 mP0 cP0), (.slice aP1 mP1 cP1)] 32 (0, 0)) :: ((b3, .cells #[(.int .i64 x1.Kind), (.int .i64 x1.Device), (.int .i64 x1.Request), (.int .i64 x1.Ticket), (.int .i64 x1.For), (.int .i64 x1.Until), (.int .i64 x1.Now)] 40 (0, 0)) :: ((b4, .cells #[(.int .i64 0), (.int .i64 0), (.int .i64 0), (.slice none 0 0), (.slice none 0 0)] 32 (0, 0)) :: ((b6, .cells #[(.int .i64 x0.Epoch), (.int .i64 x0.Owner), (.int .i64 x0.Next), (.slice aP0 mP0 cP0), (.slice aP1 mP1 cP1)] 32 (0, 0)) :: L))))) ?_ ?_
    · skip
      refine c_reg ?_
      refine c_eql rfl rfl (fun h12 => ?_) (fun h12 => ?_)
      · replace h := iT h12 h
        refine sv (r_assign (v := .bool true) rfl) ?_
        refine s_nil ?_
        refine c_next ?_
        rw [← Option.some.inj h] at hr100
        obtain ⟨hO101, e101⟩ := hO19.permE (pmbC pmb0)
        obtain ⟨hO102, e102⟩ := hO101.permE (pmbC (pmbC pmb0))
        obtain ⟨hO103, e103⟩ := hO102.permE (pmbC (pmbC (pmbC pmb0)))
        exact ⟨_, rfl, true, hr100, rfl, rfl, rfl, rfl, rfl, rfl, hO103, (e101.trans (e102.trans e103))⟩
      replace h := iF h12 h
      refine sv (r_assign (v := .bool false) rfl) ?_
      refine s_nil ?_
      refine c_next ?_
      rw [← Option.some.inj h] at hr100
      obtain ⟨hO104, e104⟩ := hO19.permE (pmbC pmb0)
      obtain ⟨hO105, e105⟩ := hO104.permE (pmbC (pmbC pmb0))
      obtain ⟨hO106, e106⟩ := hO105.permE (pmbC (pmbC (pmbC pmb0)))
      exact ⟨_, rfl, false, hr100, rfl, rfl, rfl, rfl, rfl, rfl, hO106, (e104.trans (e105.trans e106))⟩
    intro gg100 w100 hI100
    clear h hr100
    obtain ⟨xc1_t11, h, hsc1_2, hsc1_3, hsc1_4, hsc1_6, hsc1_10, hsc1_11, hO100, e100⟩ := hI100
    replace h := hG_ hG100 h; clear hG100
    obtain ⟨qq100, rfl⟩ := fr6 hsc1_2 hsc1_3 hsc1_4 hsc1_6 hsc1_10 hsc1_11
    clear hsc1_2 hsc1_3 hsc1_4 hsc1_6 hsc1_10 hsc1_11
    rcases Bool.eq_false_or_eq_true (xc1_t11) with hb107 | hb107
    · replace h := iT hb107 h
      refine c_condT (congrArg Value.bool hb107) ?_
      refine c_reg ?_
      refine sv (r_fieldAddr Try.underlying32 rfl I29 (by decide) rfl) ?_
      refine s_load1 (v := .slice _ _ _) Try.underlying29 rfl rfl (cellB (hO100.get (i := 0) rfl) rfl rfl) ?_
      refine sv (r_fieldAddr Try.underlying40 rfl I3 (by decide) rfl) ?_
      refine s_load1 (v := .int _ _) Try.underlying3 rfl rfl (cellB (hO100.get (i := 1) rfl) rfl rfl) ?_
      obtain ⟨y18, hy18, h⟩ := bindE h
      refine s_call cf26 rfl (c_batonref25_Enrol x0.Roster x1.Device aP0 mP0 cP0 _ hy18 _ _ hm0p hc0p (hR0p.ext e100) hO100) ?_
      rintro er18 w108 ⟨a18_0, m18_0, c18_0, rfl, hm18_0, hc18_0, hR18_0, hO108, e108⟩
      refine ⟨_, rfl, ?_⟩
      refine sv (r_move (v := .tuple _) rfl) ?_
      refine sv (r_extract rfl rfl) ?_
      refine sv (r_extract rfl rfl) ?_
      refine sv (r_fieldAddr Try.underlying32 rfl I29 (by decide) rfl) ?_
      refine s_store1 (v := (.slice a18_0 m18_0 c18_0)) (o := 3) I29 rfl rfl rfl hO108 (i := 3) rfl rfl rfl ?_
      intro w109 hO109 e109
      have hO110 : Own w109 ((b2, .cells #[(.int .i64 x0.Epoch), (.int .i64 x0.Owner), (.int .i64 x0.Next), (.slice aP0 mP0 cP0), (.slice aP1 mP1 cP1)] 32 (0, 0)) :: ((b3, .cells #[(.int .i64 x1.Kind), (.int .i64 x1.Device), (.int .i64 x1.Request), (.int .i64 x1.Ticket), (.int .i64 x1.For), (.int .i64 x1.Until), (.int .i64 x1.Now)] 40 (0, 0)) :: ((b4, .cells #[(.int .i64 0), (.int .i64 0), (.int .i64 0), (.slice none 0 0), (.slice none 0 0)] 32 (0, 0)) :: ((b6, .cells #[(.int .i64 x0.Epoch), (.int .i64 x0.Owner), (.int .i64 x0.Next), (.slice a18_0 m18_0 c18_0), (.slice aP1 mP1 cP1)] 32 (0, 0)) :: L)))) := hO109
      refine sv (r_assign (v := .int _ _) rfl) ?_
      refine s_nil ?_
      refine x_norm ?_
      refine c_next ?_
      rw [← Option.some.inj h] at hr99
      obtain ⟨hO112, e112⟩ := hO110.permE (pmbC pmb0)
      obtain ⟨hO113, e113⟩ := hO112.drop1
      exact ⟨_, rfl, y18.2, ({ Epoch := x0.Epoch, Owner := x0.Owner, Next := x0.Next, Roster := y18.1, Tickets := x0.Tickets } : T_batonref27_State), a18_0, m18_0, c18_0, aP1, mP1, cP1, hr99, rfl, rfl, rfl, rfl, hm18_0, hc18_0, (hR18_0.ext (e109.trans (e112.trans e113))), hm1p, hc1p, (hR1p.ext (e100.trans (e108.trans (e109.trans (e112.trans e113))))), hO113, (e100.trans (e108.trans (e109.trans (e112.trans e113))))⟩
    replace h := iF (nt hb107) h
    refine c_condF (congrArg Value.bool hb107) ?_
    have hR0p := (hR0p.ext e100)
    have hR1p := (hR1p.ext e100)
    obtain ⟨oc114, G114, hG114, h, hr114⟩ := bindG h
    refine c_cutL hO100 (fun Lc f0 g w' => ∃ (xc2_t22 : Bool), (G114 xc2_t22 = some oc99) ∧ g 2 = (.pointer (some ⟨b2, 0, none⟩)) ∧ g 3 = (.pointer (some ⟨b3, 0, none⟩)) ∧ g 4 = (.pointer (some ⟨b4, 0, none⟩)) ∧ g 6 = (.pointer (some ⟨b6, 0, none⟩)) ∧ g 10 = (.int .i64 x1.Kind) ∧ g 22 = (.bool xc2_t22) ∧ Own w' ((b2, .cells #[(.int .i64 x0.Epoch), (.int .i64 x0.Owner), (.int .i64 x0.Next), (.slice aP0 mP0 cP0), (.slice aP1 mP1 cP1)] 32 (0, 0)) :: ((b3, .cells #[(.int .i64 x1.Kind), (.int .i64 x1.Device), (.int .i64 x1.Request), (.int .i64 x1.Ticket), (.int .i64 x1.For), (.int .i64 x1.Until), (.int .i64 x1.Now)] 40 (0, 0)) :: ((b4, .cells #[(.int .i64 0), (.int .i64 0), (.int .i64 0), (.slice none 0 0), (.slice none 0 0)] 32 (0, 0)) :: ((b6, .cells #[(.int .i64 x0.Epoch), (.int .i64 x0.Owner), (.int .i64 x0.Next), (.slice aP0 mP0 cP0), (.slice aP1 mP1 cP1)] 32 (0, 0)) :: L)))) ∧ Ext w100 Lc w' ((b2, .cells #[(.int .i64 x0.Epoch), (.int .i64 x0.Owner), (.int .i64 x0.Next), (.slice aP0 mP0 cP0), (.slice aP1 mP1 cP1)] 32 (0, 0)) :: ((b3, .cells #[(.int .i64 x1.Kind), (.int .i64 x1.Device), (.int .i64 x1.Request), (.int .i64 x1.Ticket), (.int .i64 x1.For), (.int .i64 x1.Until), (.int .i64 x1.Now)] 40 (0, 0)) :: ((b4, .cells #[(.int .i64 0), (.int .i64 0), (.int .i64 0), (.slice none 0 0), (.slice none 0 0)] 32 (0, 0)) :: ((b6, .cells #[(.int .i64 x0.Epoch), (.int .i64 x0.Owner), (.int .i64 x0.Next), (.slice aP0 mP0 cP0), (.slice aP1 mP1 cP1)] 32 (0, 0)) :: L))))) ?_ ?_
    · skip
      refine c_reg ?_
      refine c_eql rfl rfl (fun h23 => ?_) (fun h23 => ?_)
      · replace h := iT h23 h
        refine sv (r_assign (v := .bool true) rfl) ?_
        refine s_nil ?_
        refine c_next ?_
        rw [← Option.some.inj h] at hr114
        exact ⟨_, rfl, true, hr114, rfl, rfl, rfl, rfl, rfl, rfl, hO100, (Ext.refl _ _)⟩
      replace h := iF h23 h
      refine sv (r_assign (v := .bool false) rfl) ?_
      refine s_nil ?_
      refine c_next ?_
      rw [← Option.some.inj h] at hr114
      exact ⟨_, rfl, false, hr114, rfl, rfl, rfl, rfl, rfl, rfl, hO100, (Ext.refl _ _)⟩
    intro gg114 w114 hI114
    clear h hr114
    obtain ⟨xc2_t22, h, hsc2_2, hsc2_3, hsc2_4, hsc2_6, hsc2_10, hsc2_22, hO114, e114⟩ := hI114
    replace h := hG_ hG114 h; clear hG114
    obtain ⟨qq114, rfl⟩ := fr6 hsc2_2 hsc2_3 hsc2_4 hsc2_6 hsc2_10 hsc2_22
    clear hsc2_2 hsc2_3 hsc2_4 hsc2_6 hsc2_10 hsc2_22
    rcases Bool.eq_false_or_eq_true (xc2_t22) with hb115 | hb115
    · replace h := iT hb115 h
      refine c_condT (congrArg Value.bool hb115) ?_
      refine c_seq ?_
      refine c_reg ?_
      refine sv (r_fieldAddr Try.underlying32 rfl I29 (by decide) rfl) ?_
      refine s_load1 (v := .slice _ _ _) Try.underlying29 rfl rfl (cellB (hO114.get (i := 0) rfl) rfl rfl) ?_
      refine sv (r_fieldAddr Try.underlying40 rfl I3 (by decide) rfl) ?_
      refine s_load1 (v := .int _ _) Try.underlying3 rfl rfl (cellB (hO114.get (i := 1) rfl) rfl rfl) ?_
      obtain ⟨y29, hy29, h⟩ := bindE h
      refine s_call cf27 rfl (c_batonref25_Revoke x0.Roster x1.Device aP0 mP0 cP0 _ hy29 _ _ hm0p hc0p (hR0p.ext e114) hO114) ?_
      rintro er29 w118 ⟨a29_0, m29_0, c29_0, rfl, hm29_0, hc29_0, hR29_0, hO118, e118⟩
      refine ⟨_, rfl, ?_⟩
      refine sv (r_move (v := .tuple _) rfl) ?_
      refine sv (r_extract rfl rfl) ?_
      refine sv (r_extract rfl rfl) ?_
      refine sv (r_fieldAddr Try.underlying32 rfl I29 (by decide) rfl) ?_
      refine s_store1 (v := (.slice a29_0 m29_0 c29_0)) (o := 3) I29 rfl rfl rfl hO118 (i := 3) rfl rfl rfl ?_
      intro w119 hO119 e119
      have hO120 : Own w119 ((b2, .cells #[(.int .i64 x0.Epoch), (.int .i64 x0.Owner), (.int .i64 x0.Next), (.slice aP0 mP0 cP0), (.slice aP1 mP1 cP1)] 32 (0, 0)) :: ((b3, .cells #[(.int .i64 x1.Kind), (.int .i64 x1.Device), (.int .i64 x1.Request), (.int .i64 x1.Ticket), (.int .i64 x1.For), (.int .i64 x1.Until), (.int .i64 x1.Now)] 40 (0, 0)) :: ((b4, .cells #[(.int .i64 0), (.int .i64 0), (.int .i64 0), (.slice none 0 0), (.slice none 0 0)] 32 (0, 0)) :: ((b6, .cells #[(.int .i64 x0.Epoch), (.int .i64 x0.Owner), (.int .i64 x0.Next), (.slice a29_0 m29_0 c29_0), (.slice aP1 mP1 cP1)] 32 (0, 0)) :: L)))) := hO119
      refine sv (r_assign (v := .int _ _) rfl) ?_
      refine s_nil ?_
      refine c_next ?_
      refine c_seq ?_
      refine c_reg ?_
      refine sv (r_move (v := .int _ _) rfl) ?_
      refine c_eql rfl rfl (fun h34 => ?_) (fun h34 => ?_)
      · replace h := iT h34 h
        refine sv (r_move (v := .bool true) rfl) ?_
        refine g_do 35 (by rfl) rfl ?_
        refine sv (r_fieldAddr Try.underlying32 rfl I3 (by decide) rfl) ?_
        refine g_do 35 (by rfl) rfl ?_
        refine s_load1 (v := .int _ _) Try.underlying3 rfl rfl (cellB (hO120.get (i := 0) rfl) rfl rfl) ?_
        refine g_do 35 (by rfl) rfl ?_
        refine sv (r_fieldAddr Try.underlying40 rfl I3 (by decide) rfl) ?_
        refine g_do 35 (by rfl) rfl ?_
        refine s_load1 (v := .int _ _) Try.underlying3 rfl rfl (cellB (hO120.get (i := 1) rfl) rfl rfl) ?_
        refine g_do 35 (by rfl) rfl ?_
        refine c_eql rfl rfl (fun h40 => ?_) (fun h40 => ?_)
        · replace h := iT h40 h
          refine sv (r_pickT (v := .bool true) rfl rfl) ?_
          refine s_nil ?_
          refine c_next ?_
          refine c_condT rfl ?_
          refine c_reg ?_
          refine s_loadAll Try.underlying32 rfl I32 rfl (hO120.get (i := 3) rfl) rfl rfl ?_
          obtain ⟨y44, hy44, h⟩ := bindE h
          refine s_call cf28 rfl (c_batonref27_move ({ Epoch := x0.Epoch, Owner := x0.Owner, Next := x0.Next, Roster := y29.1, Tickets := x0.Tickets } : T_batonref27_State) (-1) a29_0 m29_0 c29_0 aP1 mP1 cP1 _ hy44 _ _ hm29_0 hc29_0 (hR29_0.ext e119) hm1p hc1p (hR1p.ext (e114.trans (e118.trans e119))) hO120) ?_
          rintro er44 w122 ⟨a44_0, m44_0, c44_0, a44_1, m44_1, c44_1, rfl, hm44_0, hc44_0, hR44_0, hm44_1, hc44_1, hR44_1, hO122, e122⟩
          refine ⟨_, rfl, ?_⟩
          refine sv (r_move (v := .tuple _) rfl) ?_
          refine sv (r_extract rfl rfl) ?_
          refine sv (r_extract rfl rfl) ?_
          refine s_storeN (vs := #[(.int .i64 y44.1.Epoch), (.int .i64 y44.1.Owner), (.int .i64 y44.1.Next), (.slice a44_0 m44_0 c44_0), (.slice a44_1 m44_1 c44_1)]) I32 rfl rfl rfl hO122 (i := 3) rfl (Nat.le_of_ble_eq_true rfl) (List.all_eq_true.1 rfl) ?_
          intro w123 hO123 e123
          have hO124 : Own w123 ((b2, .cells #[(.int .i64 x0.Epoch), (.int .i64 x0.Owner), (.int .i64 x0.Next), (.slice aP0 mP0 cP0), (.slice aP1 mP1 cP1)] 32 (0, 0)) :: ((b3, .cells #[(.int .i64 x1.Kind), (.int .i64 x1.Device), (.int .i64 x1.Request), (.int .i64 x1.Ticket), (.int .i64 x1.For), (.int .i64 x1.Until), (.int .i64 x1.Now)] 40 (0, 0)) :: ((b4, .cells #[(.int .i64 0), (.int .i64 0), (.int .i64 0), (.slice none 0 0), (.slice none 0 0)] 32 (0, 0)) :: ((b6, .cells #[(.int .i64 y44.1.Epoch), (.int .i64 y44.1.Owner), (.int .i64 y44.1.Next), (.slice a44_0 m44_0 c44_0), (.slice a44_1 m44_1 c44_1)] 32 (0, 0)) :: L)))) := hO123
          refine sv (r_assign (v := .int _ _) rfl) ?_
          refine s_nil ?_
          refine x_norm ?_
          refine c_next ?_
          rw [← Option.some.inj h] at hr99
          obtain ⟨hO126, e126⟩ := hO124.permE (pmbC pmb0)
          obtain ⟨hO127, e127⟩ := hO126.drop1
          exact ⟨_, rfl, y44.2, ({ Epoch := y44.1.Epoch, Owner := y44.1.Owner, Next := y44.1.Next, Roster := y44.1.Roster, Tickets := y44.1.Tickets } : T_batonref27_State), a44_0, m44_0, c44_0, a44_1, m44_1, c44_1, hr99, rfl, rfl, rfl, rfl, hm44_0, hc44_0, (hR44_0.ext (e123.trans (e126.trans e127))), hm44_1, hc44_1, (hR44_1.ext (e123.trans (e126.trans e127))), hO127, (e100.trans (e114.trans (e118.trans (e119.trans (e122.trans (e123.trans (e126.trans e127)))))))⟩
        replace h := iF h40 h
        refine sv (r_pickT (v := .bool false) rfl rfl) ?_
        refine s_nil ?_
        refine c_next ?_
        refine c_condF rfl ?_
        refine c_skip ?_
        refine x_norm ?_
        refine c_next ?_
        rw [← Option.some.inj h] at hr99
        obtain ⟨hO128, e128⟩ := hO120.permE (pmbC pmb0)
        obtain ⟨hO129, e129⟩ := hO128.drop1
        exact ⟨_, rfl, y29.2, ({ Epoch := x0.Epoch, Owner := x0.Owner, Next := x0.Next, Roster := y29.1, Tickets := x0.Tickets } : T_batonref27_State), a29_0, m29_0, c29_0, aP1, mP1, cP1, hr99, rfl, rfl, rfl, rfl, hm29_0, hc29_0, (hR29_0.ext (e119.trans (e128.trans e129))), hm1p, hc1p, (hR1p.ext (e114.trans (e118.trans (e119.trans (e128.trans e129))))), hO129, (e100.trans (e114.trans (e118.trans (e119.trans (e128.trans e129)))))⟩
      replace h := iF h34 h
      refine sv (r_move (v := .bool false) rfl) ?_
      refine g_skip 35 (by rfl) rfl (by rfl) ?_
      refine g_skip 35 (by rfl) rfl (by rfl) ?_
      refine g_skip 35 (by rfl) rfl (by rfl) ?_
      refine g_skip 35 (by rfl) rfl (by rfl) ?_
      refine g_skip 35 (by rfl) rfl (by rfl) ?_
      refine sv (r_pickF (v := .bool false) rfl rfl) ?_
      refine s_nil ?_
      refine c_next ?_
      refine c_condF rfl ?_
      refine c_skip ?_
      refine x_norm ?_
      refine c_next ?_
      rw [← Option.some.inj h] at hr99
      obtain ⟨hO130, e130⟩ := hO120.permE (pmbC pmb0)
      obtain ⟨hO131, e131⟩ := hO130.drop1
      exact ⟨_, rfl, y29.2, ({ Epoch := x0.Epoch, Owner := x0.Owner, Next := x0.Next, Roster := y29.1, Tickets := x0.Tickets } : T_batonref27_State), a29_0, m29_0, c29_0, aP1, mP1, cP1, hr99, rfl, rfl, rfl, rfl, hm29_0, hc29_0, (hR29_0.ext (e119.trans (e130.trans e131))), hm1p, hc1p, (hR1p.ext (e114.trans (e118.trans (e119.trans (e130.trans e131))))), hO131, (e100.trans (e114.trans (e118.trans (e119.trans (e130.trans e131)))))⟩
    replace h := iF (nt hb115) h
    refine c_condF (congrArg Value.bool hb115) ?_
    have hR0p := (hR0p.ext e114)
    have hR1p := (hR1p.ext e114)
    obtain ⟨oc132, G132, hG132, h, hr132⟩ := bindG h
    refine c_cutL hO114 (fun Lc f0 g w' => ∃ (xc3_t47 : Bool), (G132 xc3_t47 = some oc99) ∧ g 2 = (.pointer (some ⟨b2, 0, none⟩)) ∧ g 3 = (.pointer (some ⟨b3, 0, none⟩)) ∧ g 4 = (.pointer (some ⟨b4, 0, none⟩)) ∧ g 6 = (.pointer (some ⟨b6, 0, none⟩)) ∧ g 10 = (.int .i64 x1.Kind) ∧ g 47 = (.bool xc3_t47) ∧ Own w' ((b2, .cells #[(.int .i64 x0.Epoch), (.int .i64 x0.Owner), (.int .i64 x0.Next), (.slice aP0 mP0 cP0), (.slice aP1 mP1 cP1)] 32 (0, 0)) :: ((b3, .cells #[(.int .i64 x1.Kind), (.int .i64 x1.Device), (.int .i64 x1.Request), (.int .i64 x1.Ticket), (.int .i64 x1.For), (.int .i64 x1.Until), (.int .i64 x1.Now)] 40 (0, 0)) :: ((b4, .cells #[(.int .i64 0), (.int .i64 0), (.int .i64 0), (.slice none 0 0), (.slice none 0 0)] 32 (0, 0)) :: ((b6, .cells #[(.int .i64 x0.Epoch), (.int .i64 x0.Owner), (.int .i64 x0.Next), (.slice aP0 mP0 cP0), (.slice aP1 mP1 cP1)] 32 (0, 0)) :: L)))) ∧ Ext w114 Lc w' ((b2, .cells #[(.int .i64 x0.Epoch), (.int .i64 x0.Owner), (.int .i64 x0.Next), (.slice aP0 mP0 cP0), (.slice aP1 mP1 cP1)] 32 (0, 0)) :: ((b3, .cells #[(.int .i64 x1.Kind), (.int .i64 x1.Device), (.int .i64 x1.Request), (.int .i64 x1.Ticket), (.int .i64 x1.For), (.int .i64 x1.Until), (.int .i64 x1.Now)] 40 (0, 0)) :: ((b4, .cells #[(.int .i64 0), (.int .i64 0), (.int .i64 0), (.slice none 0 0), (.slice none 0 0)] 32 (0, 0)) :: ((b6, .cells #[(.int .i64 x0.Epoch), (.int .i64 x0.Owner), (.int .i64 x0.Next), (.slice aP0 mP0 cP0), (.slice aP1 mP1 cP1)] 32 (0, 0)) :: L))))) ?_ ?_
    · skip
      refine c_seq ?_
      refine c_reg ?_
      refine c_eql rfl rfl (fun h48 => ?_) (fun h48 => ?_)
      · replace h := iT h48 h
        refine sv (r_assign (v := .bool true) rfl) ?_
        refine s_nil ?_
        refine c_next ?_
        refine c_condT rfl ?_
        refine c_skip ?_
        refine c_next ?_
        rw [← Option.some.inj h] at hr132
        exact ⟨_, rfl, true, hr132, rfl, rfl, rfl, rfl, rfl, rfl, hO114, (Ext.refl _ _)⟩
      replace h := iF h48 h
      refine sv (r_assign (v := .bool false) rfl) ?_
      refine s_nil ?_
      refine c_next ?_
      refine c_condF rfl ?_
      refine c_seq ?_
      refine c_reg ?_
      refine c_eql rfl rfl (fun h49 => ?_) (fun h49 => ?_)
      · replace h := iT h49 h
        refine sv (r_assign (v := .bool true) rfl) ?_
        refine s_nil ?_
        refine c_next ?_
        refine c_condT rfl ?_
        refine c_skip ?_
        refine c_next ?_
        rw [← Option.some.inj h] at hr132
        exact ⟨_, rfl, true, hr132, rfl, rfl, rfl, rfl, rfl, rfl, hO114, (Ext.refl _ _)⟩
      replace h := iF h49 h
      refine sv (r_assign (v := .bool false) rfl) ?_
      refine s_nil ?_
      refine c_next ?_
      refine c_condF rfl ?_
      refine c_reg ?_
      refine c_eql rfl rfl (fun h50 => ?_) (fun h50 => ?_)
      · replace h := iT h50 h
        refine sv (r_assign (v := .bool true) rfl) ?_
        refine s_nil ?_
        refine c_next ?_
        rw [← Option.some.inj h] at hr132
        exact ⟨_, rfl, true, hr132, rfl, rfl, rfl, rfl, rfl, rfl, hO114, (Ext.refl _ _)⟩
      replace h := iF h50 h
      refine sv (r_assign (v := .bool false) rfl) ?_
      refine s_nil ?_
      refine c_next ?_
      rw [← Option.some.inj h] at hr132
      exact ⟨_, rfl, false, hr132, rfl, rfl, rfl, rfl, rfl, rfl, hO114, (Ext.refl _ _)⟩
    intro gg132 w132 hI132
    clear h hr132
    obtain ⟨xc3_t47, h, hsc3_2, hsc3_3, hsc3_4, hsc3_6, hsc3_10, hsc3_47, hO132, e132⟩ := hI132
    replace h := hG_ hG132 h; clear hG132
    obtain ⟨qq132, rfl⟩ := fr6 hsc3_2 hsc3_3 hsc3_4 hsc3_6 hsc3_10 hsc3_47
    clear hsc3_2 hsc3_3 hsc3_4 hsc3_6 hsc3_10 hsc3_47
    rcases Bool.eq_false_or_eq_true (xc3_t47) with hb133 | hb133
    · replace h := iT hb133 h
      refine c_condT (congrArg Value.bool hb133) ?_
      refine c_seq ?_
      refine c_reg ?_
      refine sv (r_fieldAddr Try.underlying32 rfl I29 (by decide) rfl) ?_
      refine s_load1 (v := .slice _ _ _) Try.underlying29 rfl rfl (cellB (hO132.get (i := 0) rfl) rfl rfl) ?_
      refine sv (r_fieldAddr Try.underlying40 rfl I3 (by decide) rfl) ?_
      refine s_load1 (v := .int _ _) Try.underlying3 rfl rfl (cellB (hO132.get (i := 1) rfl) rfl rfl) ?_
      refine sv (r_fieldAddr Try.underlying40 rfl I3 (by decide) rfl) ?_
      refine s_load1 (v := .int _ _) Try.underlying3 rfl rfl (cellB (hO132.get (i := 1) rfl) rfl rfl) ?_
      obtain ⟨y58, hy58, h⟩ := bindE h
      refine s_call cf29 rfl (c_batonref25_Accept x0.Roster x1.Device x1.Request aP0 mP0 cP0 _ hy58 _ _ hm0p hc0p (hR0p.ext e132) hO132) ?_
      rintro er58 w136 ⟨a58_0, m58_0, c58_0, rfl, hm58_0, hc58_0, hR58_0, hO136, e136⟩
      refine ⟨_, rfl, ?_⟩
      refine sv (r_move (v := .tuple _) rfl) ?_
      refine sv (r_extract rfl rfl) ?_
      refine sv (r_extract rfl rfl) ?_
      refine sv (r_fieldAddr Try.underlying32 rfl I29 (by decide) rfl) ?_
      refine s_store1 (v := (.slice a58_0 m58_0 c58_0)) (o := 3) I29 rfl rfl rfl hO136 (i := 3) rfl rfl rfl ?_
      intro w137 hO137 e137
      have hO138 : Own w137 ((b2, .cells #[(.int .i64 x0.Epoch), (.int .i64 x0.Owner), (.int .i64 x0.Next), (.slice aP0 mP0 cP0), (.slice aP1 mP1 cP1)] 32 (0, 0)) :: ((b3, .cells #[(.int .i64 x1.Kind), (.int .i64 x1.Device), (.int .i64 x1.Request), (.int .i64 x1.Ticket), (.int .i64 x1.For), (.int .i64 x1.Until), (.int .i64 x1.Now)] 40 (0, 0)) :: ((b4, .cells #[(.int .i64 0), (.int .i64 0), (.int .i64 0), (.slice none 0 0), (.slice none 0 0)] 32 (0, 0)) :: ((b6, .cells #[(.int .i64 x0.Epoch), (.int .i64 x0.Owner), (.int .i64 x0.Next), (.slice a58_0 m58_0 c58_0), (.slice aP1 mP1 cP1)] 32 (0, 0)) :: L)))) := hO137
      refine sv (r_assign (v := .int _ _) rfl) ?_
      refine s_nil ?_
      refine c_next ?_
      have hR0p := (hR0p.ext (e132.trans (e136.trans e137)))
      have hR1p := (hR1p.ext (e132.trans (e136.trans e137)))
      have hR58_0 := (hR58_0.ext e137)
      obtain ⟨oc144, G144, hG144, h, hr144⟩ := bindG h
      refine c_cutL hO138 (fun Lc f0 g w' => ∃ (xc4_t7 : Int) (xc4_b6 : T_batonref27_State) (ac4_0 : Option Addr) (mc4_0 cc4_0 : Nat) (ac4_1 : Option Addr) (mc4_1 cc4_1 : Nat), (G144 (xc4_t7, xc4_b6) = some oc99) ∧ g 2 = (.pointer (some ⟨b2, 0, none⟩)) ∧ g 3 = (.pointer (some ⟨b3, 0, none⟩)) ∧ g 4 = (.pointer (some ⟨b4, 0, none⟩)) ∧ g 6 = (.pointer (some ⟨b6, 0, none⟩)) ∧ g 7 = (.int .i64 xc4_t7) ∧ xc4_b6.Roster.length = mc4_0 ∧ mc4_0 ≤ cc4_0 ∧ Rd w' ((b2, .cells #[(.int .i64 x0.Epoch), (.int .i64 x0.Owner), (.int .i64 x0.Next), (.slice aP0 mP0 cP0), (.slice aP1 mP1 cP1)] 32 (0, 0)) :: ((b3, .cells #[(.int .i64 x1.Kind), (.int .i64 x1.Device), (.int .i64 x1.Request), (.int .i64 x1.Ticket), (.int .i64 x1.For), (.int .i64 x1.Until), (.int .i64 x1.Now)] 40 (0, 0)) :: ((b4, .cells #[(.int .i64 0), (.int .i64 0), (.int .i64 0), (.slice none 0 0), (.slice none 0 0)] 32 (0, 0)) :: ((b6, .cells #[(.int .i64 xc4_b6.Epoch), (.int .i64 xc4_b6.Owner), (.int .i64 xc4_b6.Next), (.slice ac4_0 mc4_0 cc4_0), (.slice ac4_1 mc4_1 cc4_1)] 32 (0, 0)) :: L)))) ac4_0 (fl e_batonref25_Device xc4_b6.Roster) ∧ xc4_b6.Tickets.length = mc4_1 ∧ mc4_1 ≤ cc4_1 ∧ Rd w' ((b2, .cells #[(.int .i64 x0.Epoch), (.int .i64 x0.Owner), (.int .i64 x0.Next), (.slice aP0 mP0 cP0), (.slice aP1 mP1 cP1)] 32 (0, 0)) :: ((b3, .cells #[(.int .i64 x1.Kind), (.int .i64 x1.Device), (.int .i64 x1.Request), (.int .i64 x1.Ticket), (.int .i64 x1.For), (.int .i64 x1.Until), (.int .i64 x1.Now)] 40 (0, 0)) :: ((b4, .cells #[(.int .i64 0), (.int .i64 0), (.int .i64 0), (.slice none 0 0), (.slice none 0 0)] 32 (0, 0)) :: ((b6, .cells #[(.int .i64 xc4_b6.Epoch), (.int .i64 xc4_b6.Owner), (.int .i64 xc4_b6.Next), (.slice ac4_0 mc4_0 cc4_0), (.slice ac4_1 mc4_1 cc4_1)] 32 (0, 0)) :: L)))) ac4_1 (fl e_batonref26_Ticket xc4_b6.Tickets) ∧ Own w' ((b2, .cells #[(.int .i64 x0.Epoch), (.int .i64 x0.Owner), (.int .i64 x0.Next), (.slice aP0 mP0 cP0), (.slice aP1 mP1 cP1)] 32 (0, 0)) :: ((b3, .cells #[(.int .i64 x1.Kind), (.int .i64 x1.Device), (.int .i64 x1.Request), (.int .i64 x1.Ticket), (.int .i64 x1.For), (.int .i64 x1.Until), (.int .i64 x1.Now)] 40 (0, 0)) :: ((b4, .cells #[(.int .i64 0), (.int .i64 0), (.int .i64 0), (.slice none 0 0), (.slice none 0 0)] 32 (0, 0)) :: ((b6, .cells #[(.int .i64 xc4_b6.Epoch), (.int .i64 xc4_b6.Owner), (.int .i64 xc4_b6.Next), (.slice ac4_0 mc4_0 cc4_0), (.slice ac4_1 mc4_1 cc4_1)] 32 (0, 0)) :: L)))) ∧ Ext w137 Lc w' ((b2, .cells #[(.int .i64 x0.Epoch), (.int .i64 x0.Owner), (.int .i64 x0.Next), (.slice aP0 mP0 cP0), (.slice aP1 mP1 cP1)] 32 (0, 0)) :: ((b3, .cells #[(.int .i64 x1.Kind), (.int .i64 x1.Device), (.int .i64 x1.Request), (.int .i64 x1.Ticket), (.int .i64 x1.For), (.int .i64 x1.Until), (.int .i64 x1.Now)] 40 (0, 0)) :: ((b4, .cells #[(.int .i64 0), (.int .i64 0), (.int .i64 0), (.slice none 0 0), (.slice none 0 0)] 32 (0, 0)) :: ((b6, .cells #[(.int .i64 xc4_b6.Epoch), (.int .i64 xc4_b6.Owner), (.int .i64 xc4_b6.Next), (.slice ac4_0 mc4_0 cc4_0), (.slice ac4_1 mc4_1 cc4_1)] 32 (0, 0)) :: L))))) ?_ ?_
      · skip
        refine c_seq ?_
        refine c_reg ?_
        refine sv (r_move (v := .int _ _) rfl) ?_
        refine c_eql rfl rfl (fun h63 => ?_) (fun h63 => ?_)
        · replace h := iT h63 h
          refine sv (r_move (v := .bool true) rfl) ?_
          refine g_do 64 (by rfl) rfl ?_
          refine sv (r_fieldAddr Try.underlying40 rfl I3 (by decide) rfl) ?_
          refine g_do 64 (by rfl) rfl ?_
          refine s_load1 (v := .int _ _) Try.underlying3 rfl rfl (cellB (hO138.get (i := 1) rfl) rfl rfl) ?_
          refine g_do 64 (by rfl) rfl ?_
          refine c_eql rfl rfl (fun h67 => ?_) (fun h67 => ?_)
          · replace h := iT h67 h
            refine sv (r_pickT (v := .bool true) rfl rfl) ?_
            refine s_nil ?_
            refine c_next ?_
            refine c_condT rfl ?_
            refine c_reg ?_
            refine s_loadAll Try.underlying32 rfl I32 rfl (hO138.get (i := 3) rfl) rfl rfl ?_
            refine s_loadAll Try.underlying40 rfl I40 rfl (hO138.get (i := 1) rfl) rfl rfl ?_
            obtain ⟨y72, hy72, h⟩ := bindE h
            refine s_call cf30 rfl (c_batonref27_issue ({ Epoch := x0.Epoch, Owner := x0.Owner, Next := x0.Next, Roster := y58.1, Tickets := x0.Tickets } : T_batonref27_State) x1 a58_0 m58_0 c58_0 aP1 mP1 cP1 _ hy72 _ _ hm58_0 hc58_0 hR58_0 hm1p hc1p hR1p hO138) ?_
            rintro er72 w145 ⟨a72_0, m72_0, c72_0, a72_1, m72_1, c72_1, rfl, hm72_0, hc72_0, hR72_0, hm72_1, hc72_1, hR72_1, hO145, e145⟩
            refine ⟨_, rfl, ?_⟩
            refine sv (r_move (v := .tuple _) rfl) ?_
            refine sv (r_extract rfl rfl) ?_
            refine sv (r_extract rfl rfl) ?_
            refine s_storeN (vs := #[(.int .i64 y72.1.Epoch), (.int .i64 y72.1.Owner), (.int .i64 y72.1.Next), (.slice a72_0 m72_0 c72_0), (.slice a72_1 m72_1 c72_1)]) I32 rfl rfl rfl hO145 (i := 3) rfl (Nat.le_of_ble_eq_true rfl) (List.all_eq_true.1 rfl) ?_
            intro w146 hO146 e146
            have hO147 : Own w146 ((b2, .cells #[(.int .i64 x0.Epoch), (.int .i64 x0.Owner), (.int .i64 x0.Next), (.slice aP0 mP0 cP0), (.slice aP1 mP1 cP1)] 32 (0, 0)) :: ((b3, .cells #[(.int .i64 x1.Kind), (.int .i64 x1.Device), (.int .i64 x1.Request), (.int .i64 x1.Ticket), (.int .i64 x1.For), (.int .i64 x1.Until), (.int .i64 x1.Now)] 40 (0, 0)) :: ((b4, .cells #[(.int .i64 0), (.int .i64 0), (.int .i64 0), (.slice none 0 0), (.slice none 0 0)] 32 (0, 0)) :: ((b6, .cells #[(.int .i64 y72.1.Epoch), (.int .i64 y72.1.Owner), (.int .i64 y72.1.Next), (.slice a72_0 m72_0 c72_0), (.slice a72_1 m72_1 c72_1)] 32 (0, 0)) :: L)))) := hO146
            refine sv (r_assign (v := .int _ _) rfl) ?_
            refine s_nil ?_
            refine c_next ?_
            rw [← Option.some.inj h] at hr144
            exact ⟨_, rfl, y72.2, ({ Epoch := y72.1.Epoch, Owner := y72.1.Owner, Next := y72.1.Next, Roster := y72.1.Roster, Tickets := y72.1.Tickets } : T_batonref27_State), a72_0, m72_0, c72_0, a72_1, m72_1, c72_1, hr144, rfl, rfl, rfl, rfl, rfl, hm72_0, hc72_0, (hR72_0.ext e146), hm72_1, hc72_1, (hR72_1.ext e146), hO147, (e145.trans e146)⟩
          replace h := iF h67 h
          refine sv (r_pickT (v := .bool false) rfl rfl) ?_
          refine s_nil ?_
          refine c_next ?_
          refine c_condF rfl ?_
          refine c_skip ?_
          refine c_next ?_
          rw [← Option.some.inj h] at hr144
          exact ⟨_, rfl, y58.2, ({ Epoch := x0.Epoch, Owner := x0.Owner, Next := x0.Next, Roster := y58.1, Tickets := x0.Tickets } : T_batonref27_State), a58_0, m58_0, c58_0, aP1, mP1, cP1, hr144, rfl, rfl, rfl, rfl, rfl, hm58_0, hc58_0, hR58_0, hm1p, hc1p, hR1p, hO138, (Ext.refl _ _)⟩
        replace h := iF h63 h
        refine sv (r_move (v := .bool false) rfl) ?_
        refine g_skip 64 (by rfl) rfl (by rfl) ?_
        refine g_skip 64 (by rfl) rfl (by rfl) ?_
        refine g_skip 64 (by rfl) rfl (by rfl) ?_
        refine sv (r_pickF (v := .bool false) rfl rfl) ?_
        refine s_nil ?_
        refine c_next ?_
        refine c_condF rfl ?_
        refine c_skip ?_
        refine c_next ?_
        rw [← Option.some.inj h] at hr144
        exact ⟨_, rfl, y58.2, ({ Epoch := x0.Epoch, Owner := x0.Owner, Next := x0.Next, Roster := y58.1, Tickets := x0.Tickets } : T_batonref27_State), a58_0, m58_0, c58_0, aP1, mP1, cP1, hr144, rfl, rfl, rfl, rfl, rfl, hm58_0, hc58_0, hR58_0, hm1p, hc1p, hR1p, hO138, (Ext.refl _ _)⟩
      intro gg144 w144 hI144
      clear h hr144
      obtain ⟨xc4_t7, xc4_b6, ac4_0, mc4_0, cc4_0, ac4_1, mc4_1, cc4_1, h, hsc4_2, hsc4_3, hsc4_4, hsc4_6, hsc4_7, hmc4_0, hcc4_0, hRc4_0, hmc4_1, hcc4_1, hRc4_1, hO144, e144⟩ := hI144
      replace h := hG_ hG144 h; clear hG144
      obtain ⟨qq144, rfl⟩ := fr5 hsc4_2 hsc4_3 hsc4_4 hsc4_6 hsc4_7
      clear hsc4_2 hsc4_3 hsc4_4 hsc4_6 hsc4_7
      have hR0p := (hR0p.ext e144)
      have hR1p := (hR1p.ext e144)
      obtain ⟨oc151, G151, hG151, h, hr151⟩ := bindG h
      refine c_cutL hO144 (fun Lc f0 g w' => ∃ (xc5_t7 : Int), (G151 xc5_t7 = some oc99) ∧ g 2 = (.pointer (some ⟨b2, 0, none⟩)) ∧ g 3 = (.pointer (some ⟨b3, 0, none⟩)) ∧ g 4 = (.pointer (some ⟨b4, 0, none⟩)) ∧ g 6 = (.pointer (some ⟨b6, 0, none⟩)) ∧ g 7 = (.int .i64 xc5_t7) ∧ Own w' ((b2, .cells #[(.int .i64 x0.Epoch), (.int .i64 x0.Owner), (.int .i64 x0.Next), (.slice aP0 mP0 cP0), (.slice aP1 mP1 cP1)] 32 (0, 0)) :: ((b3, .cells #[(.int .i64 x1.Kind), (.int .i64 x1.Device), (.int .i64 x1.Request), (.int .i64 x1.Ticket), (.int .i64 x1.For), (.int .i64 x1.Until), (.int .i64 x1.Now)] 40 (0, 0)) :: ((b4, .cells #[(.int .i64 0), (.int .i64 0), (.int .i64 0), (.slice none 0 0), (.slice none 0 0)] 32 (0, 0)) :: ((b6, .cells #[(.int .i64 xc4_b6.Epoch), (.int .i64 xc4_b6.Owner), (.int .i64 xc4_b6.Next), (.slice ac4_0 mc4_0 cc4_0), (.slice ac4_1 mc4_1 cc4_1)] 32 (0, 0)) :: L)))) ∧ Ext w144 Lc w' ((b2, .cells #[(.int .i64 x0.Epoch), (.int .i64 x0.Owner), (.int .i64 x0.Next), (.slice aP0 mP0 cP0), (.slice aP1 mP1 cP1)] 32 (0, 0)) :: ((b3, .cells #[(.int .i64 x1.Kind), (.int .i64 x1.Device), (.int .i64 x1.Request), (.int .i64 x1.Ticket), (.int .i64 x1.For), (.int .i64 x1.Until), (.int .i64 x1.Now)] 40 (0, 0)) :: ((b4, .cells #[(.int .i64 0), (.int .i64 0), (.int .i64 0), (.slice none 0 0), (.slice none 0 0)] 32 (0, 0)) :: ((b6, .cells #[(.int .i64 xc4_b6.Epoch), (.int .i64 xc4_b6.Owner), (.int .i64 xc4_b6.Next), (.slice ac4_0 mc4_0 cc4_0), (.slice ac4_1 mc4_1 cc4_1)] 32 (0, 0)) :: L))))) ?_ ?_
      · skip
        refine c_seq ?_
        refine c_reg ?_
        refine sv (r_move (v := .int _ _) rfl) ?_
        refine c_eql rfl rfl (fun h76 => ?_) (fun h76 => ?_)
        · replace h := iT h76 h
          refine sv (r_move (v := .bool true) rfl) ?_
          refine g_do 77 (by rfl) rfl ?_
          refine sv (r_fieldAddr Try.underlying40 rfl I3 (by decide) rfl) ?_
          refine g_do 77 (by rfl) rfl ?_
          refine s_load1 (v := .int _ _) Try.underlying3 rfl rfl (cellB (hO144.get (i := 1) rfl) rfl rfl) ?_
          refine g_do 77 (by rfl) rfl ?_
          refine c_eql rfl rfl (fun h80 => ?_) (fun h80 => ?_)
          · replace h := iT h80 h
            refine sv (r_pickT (v := .bool true) rfl rfl) ?_
            refine s_nil ?_
            refine c_next ?_
            refine c_condT rfl ?_
            refine c_reg ?_
            refine sv (r_fieldAddr Try.underlying32 rfl I30 (by decide) rfl) ?_
            refine s_load1 (v := .slice _ _ _) Try.underlying30 rfl rfl (cellB (hO144.get (i := 0) rfl) rfl rfl) ?_
            refine sv (r_fieldAddr Try.underlying40 rfl I3 (by decide) rfl) ?_
            refine s_load1 (v := .int _ _) Try.underlying3 rfl rfl (cellB (hO144.get (i := 1) rfl) rfl rfl) ?_
            refine sv (r_fieldAddr Try.underlying40 rfl I3 (by decide) rfl) ?_
            refine s_load1 (v := .int _ _) Try.underlying3 rfl rfl (cellB (hO144.get (i := 1) rfl) rfl rfl) ?_
            refine sv (r_fieldAddr Try.underlying40 rfl I3 (by decide) rfl) ?_
            refine s_load1 (v := .int _ _) Try.underlying3 rfl rfl (cellB (hO144.get (i := 1) rfl) rfl rfl) ?_
            obtain ⟨y90, hy90, h⟩ := bindE h
            refine s_call cf31 rfl (c_batonref26_Use x0.Tickets x1.Ticket x1.Device x1.Now aP1 mP1 cP1 _ hy90 _ _ hm1p hc1p hR1p hO144) ?_
            rintro er90 w152 ⟨rfl, hO152, e152⟩
            refine ⟨_, rfl, ?_⟩
            refine sv (r_assign (v := .int _ _) rfl) ?_
            refine s_nil ?_
            refine c_next ?_
            rw [← Option.some.inj h] at hr151
            exact ⟨_, rfl, y90, hr151, rfl, rfl, rfl, rfl, rfl, hO152, e152⟩
          replace h := iF h80 h
          refine sv (r_pickT (v := .bool false) rfl rfl) ?_
          refine s_nil ?_
          refine c_next ?_
          refine c_condF rfl ?_
          refine c_skip ?_
          refine c_next ?_
          rw [← Option.some.inj h] at hr151
          exact ⟨_, rfl, xc4_t7, hr151, rfl, rfl, rfl, rfl, rfl, hO144, (Ext.refl _ _)⟩
        replace h := iF h76 h
        refine sv (r_move (v := .bool false) rfl) ?_
        refine g_skip 77 (by rfl) rfl (by rfl) ?_
        refine g_skip 77 (by rfl) rfl (by rfl) ?_
        refine g_skip 77 (by rfl) rfl (by rfl) ?_
        refine sv (r_pickF (v := .bool false) rfl rfl) ?_
        refine s_nil ?_
        refine c_next ?_
        refine c_condF rfl ?_
        refine c_skip ?_
        refine c_next ?_
        rw [← Option.some.inj h] at hr151
        exact ⟨_, rfl, xc4_t7, hr151, rfl, rfl, rfl, rfl, rfl, hO144, (Ext.refl _ _)⟩
      intro gg151 w151 hI151
      clear h hr151
      obtain ⟨xc5_t7, h, hsc5_2, hsc5_3, hsc5_4, hsc5_6, hsc5_7, hO151, e151⟩ := hI151
      replace h := hG_ hG151 h; clear hG151
      obtain ⟨qq151, rfl⟩ := fr5 hsc5_2 hsc5_3 hsc5_4 hsc5_6 hsc5_7
      clear hsc5_2 hsc5_3 hsc5_4 hsc5_6 hsc5_7
      refine c_seq ?_
      refine c_reg ?_
      refine sv (r_move (v := .int _ _) rfl) ?_
      refine c_eql rfl rfl (fun h92 => ?_) (fun h92 => ?_)
      · replace h := iT h92 h
        refine sv (r_move (v := .bool true) rfl) ?_
        refine g_do 93 (by rfl) rfl ?_
        refine sv (r_fieldAddr Try.underlying40 rfl I3 (by decide) rfl) ?_
        refine g_do 93 (by rfl) rfl ?_
        refine s_load1 (v := .int _ _) Try.underlying3 rfl rfl (cellB (hO151.get (i := 1) rfl) rfl rfl) ?_
        refine g_do 93 (by rfl) rfl ?_
        refine c_neq rfl rfl (fun h96 => ?_) (fun h96 => ?_)
        · replace h := iT h96 h
          refine sv (r_pickT (v := .bool true) rfl rfl) ?_
          refine s_nil ?_
          refine c_next ?_
          refine c_condT rfl ?_
          refine c_reg ?_
          refine s_loadAll Try.underlying32 rfl I32 rfl (hO151.get (i := 3) rfl) rfl rfl ?_
          refine sv (r_fieldAddr Try.underlying40 rfl I3 (by decide) rfl) ?_
          refine s_load1 (v := .int _ _) Try.underlying3 rfl rfl (cellB (hO151.get (i := 1) rfl) rfl rfl) ?_
          obtain ⟨y102, hy102, h⟩ := bindE h
          refine s_call cf28 rfl (c_batonref27_move xc4_b6 x1.Device ac4_0 mc4_0 cc4_0 ac4_1 mc4_1 cc4_1 _ hy102 _ _ hmc4_0 hcc4_0 (hRc4_0.ext e151) hmc4_1 hcc4_1 (hRc4_1.ext e151) hO151) ?_
          rintro er102 w153 ⟨a102_0, m102_0, c102_0, a102_1, m102_1, c102_1, rfl, hm102_0, hc102_0, hR102_0, hm102_1, hc102_1, hR102_1, hO153, e153⟩
          refine ⟨_, rfl, ?_⟩
          refine sv (r_move (v := .tuple _) rfl) ?_
          refine sv (r_extract rfl rfl) ?_
          refine sv (r_extract rfl rfl) ?_
          refine s_storeN (vs := #[(.int .i64 y102.1.Epoch), (.int .i64 y102.1.Owner), (.int .i64 y102.1.Next), (.slice a102_0 m102_0 c102_0), (.slice a102_1 m102_1 c102_1)]) I32 rfl rfl rfl hO153 (i := 3) rfl (Nat.le_of_ble_eq_true rfl) (List.all_eq_true.1 rfl) ?_
          intro w154 hO154 e154
          have hO155 : Own w154 ((b2, .cells #[(.int .i64 x0.Epoch), (.int .i64 x0.Owner), (.int .i64 x0.Next), (.slice aP0 mP0 cP0), (.slice aP1 mP1 cP1)] 32 (0, 0)) :: ((b3, .cells #[(.int .i64 x1.Kind), (.int .i64 x1.Device), (.int .i64 x1.Request), (.int .i64 x1.Ticket), (.int .i64 x1.For), (.int .i64 x1.Until), (.int .i64 x1.Now)] 40 (0, 0)) :: ((b4, .cells #[(.int .i64 0), (.int .i64 0), (.int .i64 0), (.slice none 0 0), (.slice none 0 0)] 32 (0, 0)) :: ((b6, .cells #[(.int .i64 y102.1.Epoch), (.int .i64 y102.1.Owner), (.int .i64 y102.1.Next), (.slice a102_0 m102_0 c102_0), (.slice a102_1 m102_1 c102_1)] 32 (0, 0)) :: L)))) := hO154
          refine sv (r_assign (v := .int _ _) rfl) ?_
          refine s_nil ?_
          refine x_norm ?_
          refine c_next ?_
          rw [← Option.some.inj h] at hr99
          obtain ⟨hO157, e157⟩ := hO155.permE (pmbC pmb0)
          obtain ⟨hO158, e158⟩ := hO157.drop1
          exact ⟨_, rfl, y102.2, ({ Epoch := y102.1.Epoch, Owner := y102.1.Owner, Next := y102.1.Next, Roster := y102.1.Roster, Tickets := y102.1.Tickets } : T_batonref27_State), a102_0, m102_0, c102_0, a102_1, m102_1, c102_1, hr99, rfl, rfl, rfl, rfl, hm102_0, hc102_0, (hR102_0.ext (e154.trans (e157.trans e158))), hm102_1, hc102_1, (hR102_1.ext (e154.trans (e157.trans e158))), hO158, (e100.trans (e114.trans (e132.trans (e136.trans (e137.trans (e144.trans (e151.trans (e153.trans (e154.trans (e157.trans e158))))))))))⟩
        replace h := iF (Classical.not_not.2 h96) h
        refine sv (r_pickT (v := .bool false) rfl rfl) ?_
        refine s_nil ?_
        refine c_next ?_
        refine c_condF rfl ?_
        refine c_skip ?_
        refine x_norm ?_
        refine c_next ?_
        rw [← Option.some.inj h] at hr99
        obtain ⟨hO159, e159⟩ := hO151.permE (pmbC pmb0)
        obtain ⟨hO160, e160⟩ := hO159.drop1
        exact ⟨_, rfl, xc5_t7, xc4_b6, ac4_0, mc4_0, cc4_0, ac4_1, mc4_1, cc4_1, hr99, rfl, rfl, rfl, rfl, hmc4_0, hcc4_0, (hRc4_0.ext (e151.trans (e159.trans e160))), hmc4_1, hcc4_1, (hRc4_1.ext (e151.trans (e159.trans e160))), hO160, (e100.trans (e114.trans (e132.trans (e136.trans (e137.trans (e144.trans (e151.trans (e159.trans e160))))))))⟩
      replace h := iF h92 h
      refine sv (r_move (v := .bool false) rfl) ?_
      refine g_skip 93 (by rfl) rfl (by rfl) ?_
      refine g_skip 93 (by rfl) rfl (by rfl) ?_
      refine g_skip 93 (by rfl) rfl (by rfl) ?_
      refine sv (r_pickF (v := .bool false) rfl rfl) ?_
      refine s_nil ?_
      refine c_next ?_
      refine c_condF rfl ?_
      refine c_skip ?_
      refine x_norm ?_
      refine c_next ?_
      rw [← Option.some.inj h] at hr99
      obtain ⟨hO161, e161⟩ := hO151.permE (pmbC pmb0)
      obtain ⟨hO162, e162⟩ := hO161.drop1
      exact ⟨_, rfl, xc5_t7, xc4_b6, ac4_0, mc4_0, cc4_0, ac4_1, mc4_1, cc4_1, hr99, rfl, rfl, rfl, rfl, hmc4_0, hcc4_0, (hRc4_0.ext (e151.trans (e161.trans e162))), hmc4_1, hcc4_1, (hRc4_1.ext (e151.trans (e161.trans e162))), hO162, (e100.trans (e114.trans (e132.trans (e136.trans (e137.trans (e144.trans (e151.trans (e161.trans e162))))))))⟩
    replace h := iF (nt hb133) h
    refine c_condF (congrArg Value.bool hb133) ?_
    refine c_seq ?_
    refine c_reg ?_
    refine c_eql rfl rfl (fun h106 => ?_) (fun h106 => ?_)
    · replace h := iT h106 h
      refine sv (r_assign (v := .bool true) rfl) ?_
      refine s_nil ?_
      refine c_next ?_
      refine c_condT rfl ?_
      refine c_reg ?_
      refine s_loadAll Try.underlying32 rfl I32 rfl (hO132.get (i := 0) rfl) rfl rfl ?_
      obtain ⟨y109, hy109, h⟩ := bindE h
      refine s_call cf28 rfl (c_batonref27_move x0 (-1) aP0 mP0 cP0 aP1 mP1 cP1 _ hy109 _ _ hm0p hc0p (hR0p.ext e132) hm1p hc1p (hR1p.ext e132) hO132) ?_
      rintro er109 w163 ⟨a109_0, m109_0, c109_0, a109_1, m109_1, c109_1, rfl, hm109_0, hc109_0, hR109_0, hm109_1, hc109_1, hR109_1, hO163, e163⟩
      refine ⟨_, rfl, ?_⟩
      refine sv (r_move (v := .tuple _) rfl) ?_
      refine sv (r_extract rfl rfl) ?_
      refine sv (r_extract rfl rfl) ?_
      refine s_storeN (vs := #[(.int .i64 y109.1.Epoch), (.int .i64 y109.1.Owner), (.int .i64 y109.1.Next), (.slice a109_0 m109_0 c109_0), (.slice a109_1 m109_1 c109_1)]) I32 rfl rfl rfl hO163 (i := 3) rfl (Nat.le_of_ble_eq_true rfl) (List.all_eq_true.1 rfl) ?_
      intro w164 hO164 e164
      have hO165 : Own w164 ((b2, .cells #[(.int .i64 x0.Epoch), (.int .i64 x0.Owner), (.int .i64 x0.Next), (.slice aP0 mP0 cP0), (.slice aP1 mP1 cP1)] 32 (0, 0)) :: ((b3, .cells #[(.int .i64 x1.Kind), (.int .i64 x1.Device), (.int .i64 x1.Request), (.int .i64 x1.Ticket), (.int .i64 x1.For), (.int .i64 x1.Until), (.int .i64 x1.Now)] 40 (0, 0)) :: ((b4, .cells #[(.int .i64 0), (.int .i64 0), (.int .i64 0), (.slice none 0 0), (.slice none 0 0)] 32 (0, 0)) :: ((b6, .cells #[(.int .i64 y109.1.Epoch), (.int .i64 y109.1.Owner), (.int .i64 y109.1.Next), (.slice a109_0 m109_0 c109_0), (.slice a109_1 m109_1 c109_1)] 32 (0, 0)) :: L)))) := hO164
      refine sv (r_assign (v := .int _ _) rfl) ?_
      refine s_nil ?_
      refine x_norm ?_
      refine c_next ?_
      rw [← Option.some.inj h] at hr99
      obtain ⟨hO167, e167⟩ := hO165.permE (pmbC pmb0)
      obtain ⟨hO168, e168⟩ := hO167.drop1
      exact ⟨_, rfl, y109.2, ({ Epoch := y109.1.Epoch, Owner := y109.1.Owner, Next := y109.1.Next, Roster := y109.1.Roster, Tickets := y109.1.Tickets } : T_batonref27_State), a109_0, m109_0, c109_0, a109_1, m109_1, c109_1, hr99, rfl, rfl, rfl, rfl, hm109_0, hc109_0, (hR109_0.ext (e164.trans (e167.trans e168))), hm109_1, hc109_1, (hR109_1.ext (e164.trans (e167.trans e168))), hO168, (e100.trans (e114.trans (e132.trans (e163.trans (e164.trans (e167.trans e168))))))⟩
    replace h := iF h106 h
    refine sv (r_assign (v := .bool false) rfl) ?_
    refine s_nil ?_
    refine c_next ?_
    refine c_condF rfl ?_
    refine c_reg ?_
    refine sv (r_assign (v := .int _ _) rfl) ?_
    refine s_nil ?_
    refine x_norm ?_
    refine c_next ?_
    rw [← Option.some.inj h] at hr99
    obtain ⟨hO169, e169⟩ := hO132.permE (pmbC pmb0)
    obtain ⟨hO170, e170⟩ := hO169.drop1
    exact ⟨_, rfl, 7, x0, aP0, mP0, cP0, aP1, mP1, cP1, hr99, rfl, rfl, rfl, rfl, hm0p, hc0p, (hR0p.ext (e132.trans (e169.trans e170))), hm1p, hc1p, (hR1p.ext (e132.trans (e169.trans e170))), hO170, (e100.trans (e114.trans (e132.trans (e169.trans e170))))⟩
  intro gg99 w99 hI99
  clear h hr99
  obtain ⟨xc6_t7, xc6_b6, ac6_0, mc6_0, cc6_0, ac6_1, mc6_1, cc6_1, h, hsc6_2, hsc6_4, hsc6_6, hsc6_7, hmc6_0, hcc6_0, hRc6_0, hmc6_1, hcc6_1, hRc6_1, hO99, e99⟩ := hI99
  replace h := hG_ hG99 h; clear hG99
  obtain ⟨qq99, rfl⟩ := fr4 hsc6_2 hsc6_4 hsc6_6 hsc6_7
  clear hsc6_2 hsc6_4 hsc6_6 hsc6_7
  refine c_seq ?_
  refine c_seq ?_
  refine c_reg ?_
  refine sv (r_move (v := .int _ _) rfl) ?_
  refine c_neq rfl rfl (fun h113 => ?_) (fun h113 => ?_)
  · replace h := iT h113 h
    refine s_nil ?_
    refine c_next ?_
    refine c_condT rfl ?_
    refine c_seq ?_
    refine c_reg ?_
    refine s_loadAll Try.underlying32 rfl I32 rfl (hO99.get (i := 0) rfl) rfl rfl ?_
    refine sv (r_move (v := .int _ _) rfl) ?_
    refine s_storeN (vs := #[(.int .i64 x0.Epoch), (.int .i64 x0.Owner), (.int .i64 x0.Next), (.slice aP0 mP0 cP0), (.slice aP1 mP1 cP1)]) I32 rfl rfl rfl hO99 (i := 1) rfl (Nat.le_of_ble_eq_true rfl) (List.all_eq_true.1 rfl) ?_
    intro w171 hO171 e171
    have hO172 : Own w171 ((b2, .cells #[(.int .i64 x0.Epoch), (.int .i64 x0.Owner), (.int .i64 x0.Next), (.slice aP0 mP0 cP0), (.slice aP1 mP1 cP1)] 32 (0, 0)) :: ((b4, .cells #[(.int .i64 x0.Epoch), (.int .i64 x0.Owner), (.int .i64 x0.Next), (.slice aP0 mP0 cP0), (.slice aP1 mP1 cP1)] 32 (0, 0)) :: ((b6, .cells #[(.int .i64 xc6_b6.Epoch), (.int .i64 xc6_b6.Owner), (.int .i64 xc6_b6.Next), (.slice ac6_0 mc6_0 cc6_0), (.slice ac6_1 mc6_1 cc6_1)] 32 (0, 0)) :: L))) := hO171
    refine sv (r_assign (v := .int _ _) rfl) ?_
    refine s_nil ?_
    refine c_next ?_
    refine c_ret ?_
    refine r_then ?_
    refine e_r2 Try.results10 (rv_agg Try.underlying32 rfl I32 rfl (hO172.get (i := 1) rfl) rfl rfl) (rv_tmp (v := .int _ _) rfl) ?_
    obtain ⟨hO174, e174⟩ := hO172.drop1
    obtain ⟨hO175, e175⟩ := hO174.drop1
    obtain ⟨hO176, e176⟩ := hO175.drop1
    rw [← Option.some.inj h]
    exact ⟨aP0, mP0, cP0, aP1, mP1, cP1, rfl, hm0p, hc0p, (hR0p.ext (e99.trans (e171.trans (e174.trans (e175.trans e176))))), hm1p, hc1p, (hR1p.ext (e99.trans (e171.trans (e174.trans (e175.trans e176))))), hO176, (e4.trans (e7.trans (e10.trans (e15.trans (e18.trans (e99.trans (e171.trans (e174.trans (e175.trans e176)))))))))⟩
  replace h := iF (Classical.not_not.2 h113) h
  refine s_nil ?_
  refine c_next ?_
  refine c_condF rfl ?_
  refine c_skip ?_
  refine c_next ?_
  refine c_seq ?_
  refine c_reg ?_
  refine s_loadAll Try.underlying32 rfl I32 rfl (hO99.get (i := 2) rfl) rfl rfl ?_
  refine s_storeN (vs := #[(.int .i64 xc6_b6.Epoch), (.int .i64 xc6_b6.Owner), (.int .i64 xc6_b6.Next), (.slice ac6_0 mc6_0 cc6_0), (.slice ac6_1 mc6_1 cc6_1)]) I32 rfl rfl rfl hO99 (i := 1) rfl (Nat.le_of_ble_eq_true rfl) (List.all_eq_true.1 rfl) ?_
  intro w177 hO177 e177
  have hO178 : Own w177 ((b2, .cells #[(.int .i64 x0.Epoch), (.int .i64 x0.Owner), (.int .i64 x0.Next), (.slice aP0 mP0 cP0), (.slice aP1 mP1 cP1)] 32 (0, 0)) :: ((b4, .cells #[(.int .i64 xc6_b6.Epoch), (.int .i64 xc6_b6.Owner), (.int .i64 xc6_b6.Next), (.slice ac6_0 mc6_0 cc6_0), (.slice ac6_1 mc6_1 cc6_1)] 32 (0, 0)) :: ((b6, .cells #[(.int .i64 xc6_b6.Epoch), (.int .i64 xc6_b6.Owner), (.int .i64 xc6_b6.Next), (.slice ac6_0 mc6_0 cc6_0), (.slice ac6_1 mc6_1 cc6_1)] 32 (0, 0)) :: L))) := hO177
  refine sv (r_assign (v := .int _ _) rfl) ?_
  refine s_nil ?_
  refine c_next ?_
  refine c_ret ?_
  refine e_r2 Try.results10 (rv_agg Try.underlying32 rfl I32 rfl (hO178.get (i := 1) rfl) rfl rfl) (rv_tmp (v := .int _ _) rfl) ?_
  obtain ⟨hO180, e180⟩ := hO178.drop1
  obtain ⟨hO181, e181⟩ := hO180.drop1
  obtain ⟨hO182, e182⟩ := hO181.drop1
  rw [← Option.some.inj h]
  exact ⟨ac6_0, mc6_0, cc6_0, ac6_1, mc6_1, cc6_1, rfl, hmc6_0, hcc6_0, (hRc6_0.ext (e177.trans (e180.trans (e181.trans e182)))), hmc6_1, hcc6_1, (hRc6_1.ext (e177.trans (e180.trans (e181.trans e182)))), hO182, (e4.trans (e7.trans (e10.trans (e15.trans (e18.trans (e99.trans (e177.trans (e180.trans (e181.trans e182)))))))))⟩
theorem c_batonlaw25_Ref (x0 : (List T_roster_Device)) (aP0 : Option Addr) (mP0 cP0 : Nat)  (r : (List T_batonref25_Device)) (h : F_batonlaw25_Ref x0 = some r) (w : World) (L : Hp) (hm0p : x0.length = mP0) (hc0p : mP0 ≤ cP0) (hR0p : Rd w L aP0 (fl e_roster_Device x0)) (hO : Own w L) :
    Calls Try.prog 34 #[(.slice aP0 mP0 cP0)] w fun en w' => ∃ (ra0 : Option Addr) (rm0 rc0 : Nat) (rS0 : Hp), en = .returned (.slice ra0 rm0 rc0) ∧ r.length = rm0 ∧ OwnSl 86 4 ra0 rm0 rc0 (fl e_batonref25_Device r) rS0 ∧ Own w' (rS0 ++ L) ∧ Ext w L w' (rS0 ++ L) := by
  unfold F_batonlaw25_Ref at h
  refine enter (n := 36) [(.slice aP0 mP0 cP0)] Try.func34 rfl rfl (Nat.le_of_ble_eq_true rfl) ?_
  refine c_seq ?_
  refine c_reg ?_
  refine sv (r_assign (v := .slice _ _ _) rfl) ?_
  refine s_nil ?_
  refine c_next ?_
  refine c_seq ?_
  refine c_reg ?_
  refine sv (r_assign (v := .slice _ _ _) rfl) ?_
  refine s_nil ?_
  refine c_next ?_
  refine c_seq ?_
  refine c_seq ?_
  refine c_reg ?_
  refine sv (r_assign (v := .int _ _) rfl) ?_
  refine s_nil ?_
  refine c_next ?_
  refine c_block ?_
  obtain ⟨kl19, hkl19⟩ := loop_iff.1 h
  clear h
  refine c_loopL hO (fun Lc f0 m g wl => ∃ (xl1_t3 : (List T_batonref25_Device)) (xl1_t4 : Int) (al1_0 : Option Addr) (ml1_0 cl1_0 : Nat) (Sl1_0 : Hp), (iterK (batonlaw25_Ref_l1 x0) m (xl1_t3, xl1_t4) = some r) ∧ g 0 = (.slice aP0 mP0 cP0) ∧ g 3 = (.slice al1_0 ml1_0 cl1_0) ∧ g 4 = (.int .i64 xl1_t4) ∧ xl1_t3.length = ml1_0 ∧ OwnSl 86 4 al1_0 ml1_0 cl1_0 (fl e_batonref25_Device xl1_t3) Sl1_0 ∧ Own wl (Sl1_0 ++ L) ∧ Ext w Lc wl (Sl1_0 ++ L)) kl19 ?_ ?_
  · skip
    exact ⟨[], 0, none, 0, 0, [], hkl19, rfl, rfl, rfl, rfl, (OwnSl.nil _ _), hO, (Ext.refl _ _)⟩
  clear hkl19
  intro mm19 gg19 w19 hI19
  obtain ⟨xl1_t3, xl1_t4, al1_0, ml1_0, cl1_0, Sl1_0, hkl19, hsl1_0, hsl1_3, hsl1_4, hml1_0, hSl1_0, hO19, e19⟩ := hI19
  obtain ⟨kl19, yl19, rfl, h, hyl19⟩ := iterE hkl19
  clear hkl19
  obtain ⟨qq19, rfl⟩ := fr3 hsl1_0 hsl1_3 hsl1_4
  clear hsl1_0 hsl1_3 hsl1_4
  refine c_seq ?_
  have hR0p := (hR0p.ext e19)
  obtain ⟨oc20, G20, hG20, h, hr20⟩ := bindG h
  refine c_cutL hO19 (fun Lc f0 g w' => ∃ (xc2_t8 : Bool), (G20 xc2_t8 = some yl19) ∧ g 0 = (.slice aP0 mP0 cP0) ∧ g 3 = (.slice al1_0 ml1_0 cl1_0) ∧ g 4 = (.int .i64 xl1_t4) ∧ g 8 = (.bool xc2_t8) ∧ Own w' (Sl1_0 ++ L) ∧ Ext w19 Lc w' (Sl1_0 ++ L)) ?_ ?_
  · skip
    refine c_reg ?_
    refine sv (r_move (v := .int _ _) rfl) ?_
    refine sv (r_move (v := .slice _ _ _) rfl) ?_
    refine sv (r_lenL (xs := x0) Try.underlying24 rfl hm0p) ?_
    refine c_lss rfl rfl (fun h8 => ?_) (fun h8 => ?_)
    · replace h := iT h8 h
      refine s_nil ?_
      refine c_next ?_
      rw [← Option.some.inj h] at hr20
      exact ⟨_, rfl, true, hr20, rfl, rfl, rfl, rfl, hO19, (Ext.refl _ _)⟩
    replace h := iF (Int.not_lt.2 h8) h
    refine s_nil ?_
    refine c_next ?_
    rw [← Option.some.inj h] at hr20
    exact ⟨_, rfl, false, hr20, rfl, rfl, rfl, rfl, hO19, (Ext.refl _ _)⟩
  intro gg20 w20 hI20
  clear h hr20
  obtain ⟨xc2_t8, h, hsc2_0, hsc2_3, hsc2_4, hsc2_8, hO20, e20⟩ := hI20
  replace h := hG_ hG20 h; clear hG20
  obtain ⟨qq20, rfl⟩ := fr4 hsc2_0 hsc2_3 hsc2_4 hsc2_8
  clear hsc2_0 hsc2_3 hsc2_4 hsc2_8
  rcases Bool.eq_false_or_eq_true (xc2_t8) with hb21 | hb21
  · replace h := iT hb21 h
    refine c_condT (congrArg Value.bool hb21) ?_
    refine c_skip ?_
    refine c_next ?_
    refine c_seq ?_
    refine c_block ?_
    have hR0p := (hR0p.ext e20)
    refine d_startL hO20 hO20.r 24 (by kernel_rfl) (pk_block (pk_then (pk_then (pk_block (pk_then pk_body))))) ?_
    intro hP23 wd23 hK23 hO22 e22
    refine dT (i := 0) (listed' := #[I_,O_,O_,O_,O_,O_,O_,O_,O_,O_,O_,O_,O_,O_,O_,O_,O_,O_,O_,O_,O_,O_,O_,O_,O_]) rfl hP23 hK23 (fun wS hS => (r_move (v := .slice _ _ _) rfl)) ?_
    refine dT (i := 1) (listed' := #[I_,I_,O_,O_,O_,O_,O_,O_,O_,O_,O_,O_,O_,O_,O_,O_,O_,O_,O_,O_,O_,O_,O_,O_,O_]) rfl hP23 hK23 (fun wS hS => (r_move (v := .slice _ _ _) rfl)) ?_
    refine dT (i := 2) (listed' := #[I_,I_,I_,O_,O_,O_,O_,O_,O_,O_,O_,O_,O_,O_,O_,O_,O_,O_,O_,O_,O_,O_,O_,O_,O_]) rfl hP23 hK23 (fun wS hS => (r_move (v := .int _ _) rfl)) ?_
    obtain ⟨y14, hy14, h⟩ := bindE h
    obtain ⟨ad14, had14, hk14⟩ := ix_known (e := e_roster_Device) (Rd.cs hR0p) e_roster_Device_len (by decide) hy14
    have hx14 : Value.slice aP0 mP0 cP0 = .slice (some ad14) mP0 cP0 := by rw [had14]
    refine dT (i := 3) (listed' := #[I_,I_,I_,I_,O_,O_,O_,O_,O_,O_,O_,O_,O_,O_,O_,O_,O_,O_,O_,O_,O_,O_,O_,O_,O_]) rfl hP23 hK23 (fun wS hS => (ra_idx (xs := x0) (i := xl1_t4) Try.underlying24 I56 (by exact hx14) (by rfl) hm0p hy14)) ?_
    refine dT (i := 4) (listed' := #[I_,I_,I_,I_,I_,O_,O_,O_,O_,O_,O_,O_,O_,O_,O_,O_,O_,O_,O_,O_,O_,O_,O_,O_,O_]) rfl hP23 hK23 (fun wS hS => (r_fieldAddr Try.underlying56 rfl I3 (by decide) rfl)) ?_
    refine dT (i := 5) (listed' := #[I_,I_,I_,I_,I_,I_,O_,O_,O_,O_,O_,O_,O_,O_,O_,O_,O_,O_,O_,O_,O_,O_,O_,O_,O_]) rfl hP23 hK23 (fun wS hS => (r_load1 (v := .int _ _) Try.underlying3 rfl rfl (cellP (hk14 _ (hR0p.kept hS)) 0 rfl))) ?_
    refine dT (i := 6) (listed' := #[I_,I_,I_,I_,I_,I_,I_,O_,O_,O_,O_,O_,O_,O_,O_,O_,O_,O_,O_,O_,O_,O_,O_,O_,O_]) rfl hP23 hK23 (fun wS hS => (r_move (v := .slice _ _ _) rfl)) ?_
    refine dT (i := 7) (listed' := #[I_,I_,I_,I_,I_,I_,I_,I_,O_,O_,O_,O_,O_,O_,O_,O_,O_,O_,O_,O_,O_,O_,O_,O_,O_]) rfl hP23 hK23 (fun wS hS => (r_move (v := .int _ _) rfl)) ?_
    obtain ⟨y19, hy19, h⟩ := bindE h
    obtain ⟨ad19, had19, hk19⟩ := ix_known (e := e_roster_Device) (Rd.cs hR0p) e_roster_Device_len (by decide) hy19
    have hx19 : Value.slice aP0 mP0 cP0 = .slice (some ad19) mP0 cP0 := by rw [had19]
    refine dT (i := 8) (listed' := #[I_,I_,I_,I_,I_,I_,I_,I_,I_,O_,O_,O_,O_,O_,O_,O_,O_,O_,O_,O_,O_,O_,O_,O_,O_]) rfl hP23 hK23 (fun wS hS => (ra_idx (xs := x0) (i := xl1_t4) Try.underlying24 I56 (by exact hx19) (by rfl) hm0p hy19)) ?_
    refine dT (i := 9) (listed' := #[I_,I_,I_,I_,I_,I_,I_,I_,I_,I_,O_,O_,O_,O_,O_,O_,O_,O_,O_,O_,O_,O_,O_,O_,O_]) rfl hP23 hK23 (fun wS hS => (r_fieldAddr Try.underlying56 rfl I3 (by decide) rfl)) ?_
    refine dT (i := 10) (listed' := #[I_,I_,I_,I_,I_,I_,I_,I_,I_,I_,I_,O_,O_,O_,O_,O_,O_,O_,O_,O_,O_,O_,O_,O_,O_]) rfl hP23 hK23 (fun wS hS => (r_load1 (v := .int _ _) Try.underlying3 rfl rfl (cellP (hk19 _ (hR0p.kept hS)) 1 rfl))) ?_
    refine dT (i := 11) (listed' := #[I_,I_,I_,I_,I_,I_,I_,I_,I_,I_,I_,I_,O_,O_,O_,O_,O_,O_,O_,O_,O_,O_,O_,O_,O_]) rfl hP23 hK23 (fun wS hS => (r_move (v := .slice _ _ _) rfl)) ?_
    refine dT (i := 12) (listed' := #[I_,I_,I_,I_,I_,I_,I_,I_,I_,I_,I_,I_,I_,O_,O_,O_,O_,O_,O_,O_,O_,O_,O_,O_,O_]) rfl hP23 hK23 (fun wS hS => (r_move (v := .int _ _) rfl)) ?_
    obtain ⟨y24, hy24, h⟩ := bindE h
    obtain ⟨ad24, had24, hk24⟩ := ix_known (e := e_roster_Device) (Rd.cs hR0p) e_roster_Device_len (by decide) hy24
    have hx24 : Value.slice aP0 mP0 cP0 = .slice (some ad24) mP0 cP0 := by rw [had24]
    refine dT (i := 13) (listed' := #[I_,I_,I_,I_,I_,I_,I_,I_,I_,I_,I_,I_,I_,I_,O_,O_,O_,O_,O_,O_,O_,O_,O_,O_,O_]) rfl hP23 hK23 (fun wS hS => (ra_idx (xs := x0) (i := xl1_t4) Try.underlying24 I56 (by exact hx24) (by rfl) hm0p hy24)) ?_
    refine dT (i := 14) (listed' := #[I_,I_,I_,I_,I_,I_,I_,I_,I_,I_,I_,I_,I_,I_,I_,O_,O_,O_,O_,O_,O_,O_,O_,O_,O_]) rfl hP23 hK23 (fun wS hS => (r_fieldAddr Try.underlying56 rfl I4 (by decide) rfl)) ?_
    refine dT (i := 15) (listed' := #[I_,I_,I_,I_,I_,I_,I_,I_,I_,I_,I_,I_,I_,I_,I_,I_,O_,O_,O_,O_,O_,O_,O_,O_,O_]) rfl hP23 hK23 (fun wS hS => (r_load1 (v := .bool _) Try.underlying4 rfl rfl (cellP (hk24 _ (hR0p.kept hS)) 2 rfl))) ?_
    refine dT (i := 16) (listed' := #[I_,I_,I_,I_,I_,I_,I_,I_,I_,I_,I_,I_,I_,I_,I_,I_,I_,O_,O_,O_,O_,O_,O_,O_,O_]) rfl hP23 hK23 (fun wS hS => (r_move (v := .slice _ _ _) rfl)) ?_
    refine dT (i := 17) (listed' := #[I_,I_,I_,I_,I_,I_,I_,I_,I_,I_,I_,I_,I_,I_,I_,I_,I_,I_,O_,O_,O_,O_,O_,O_,O_]) rfl hP23 hK23 (fun wS hS => (r_move (v := .int _ _) rfl)) ?_
    obtain ⟨y29, hy29, h⟩ := bindE h
    obtain ⟨ad29, had29, hk29⟩ := ix_known (e := e_roster_Device) (Rd.cs hR0p) e_roster_Device_len (by decide) hy29
    have hx29 : Value.slice aP0 mP0 cP0 = .slice (some ad29) mP0 cP0 := by rw [had29]
    refine dT (i := 18) (listed' := #[I_,I_,I_,I_,I_,I_,I_,I_,I_,I_,I_,I_,I_,I_,I_,I_,I_,I_,I_,O_,O_,O_,O_,O_,O_]) rfl hP23 hK23 (fun wS hS => (ra_idx (xs := x0) (i := xl1_t4) Try.underlying24 I56 (by exact hx29) (by rfl) hm0p hy29)) ?_
    refine dT (i := 19) (listed' := #[I_,I_,I_,I_,I_,I_,I_,I_,I_,I_,I_,I_,I_,I_,I_,I_,I_,I_,I_,I_,O_,O_,O_,O_,O_]) rfl hP23 hK23 (fun wS hS => (r_fieldAddr Try.underlying56 rfl I3 (by decide) rfl)) ?_
    refine dT (i := 20) (listed' := #[I_,I_,I_,I_,I_,I_,I_,I_,I_,I_,I_,I_,I_,I_,I_,I_,I_,I_,I_,I_,I_,O_,O_,O_,O_]) rfl hP23 hK23 (fun wS hS => (r_load1 (v := .int _ _) Try.underlying3 rfl rfl (cellP (hk29 _ (hR0p.kept hS)) 3 rfl))) ?_
    refine dT (i := 21) (listed' := #[I_,I_,I_,I_,I_,I_,I_,I_,I_,I_,I_,I_,I_,I_,I_,I_,I_,I_,I_,I_,I_,I_,O_,O_,O_]) rfl hP23 hK23 (fun wS hS => (r_build (vs := [(0, (.int .i64 y14.Id)), (1, (.int .i64 y19.Times)), (2, (.bool y24.Gone)), (3, (.int .i64 y29.Last))]) (cells := #[(.int .i64 y14.Id), (.int .i64 y19.Times), (.bool y24.Gone), (.int .i64 y29.Last)]) I86 pl86 rfl (by kernel_rfl))) ?_
    refine d1 (i := 22) (listed' := #[I_,I_,I_,I_,I_,I_,I_,I_,I_,I_,I_,I_,I_,I_,I_,I_,I_,I_,I_,I_,I_,I_,I_,O_,O_]) ?_
    refine a_lit (en := e_batonref25_Device) (xs := [({ Id := y14.Id, Times := y19.Times, Gone := y24.Gone, Last := y29.Last } : T_batonref25_Device)]) (vs := [(.agg #[(.int .i64 y14.Id), (.int .i64 y19.Times), (.bool y24.Gone), (.int .i64 y29.Last)])]) Try.underlying29 I86 hO22 rfl rfl (by simp [Value.cells]) (by decide) rfl e_batonref25_Device_len rfl (by decide) ?_
    intro a33 m33 c33 S33 w24 hm33 hS33 hO24 e24
    have hK25 : Kept w20 _ _ w24 := Kept.to (e22.trans e24) hO24.r.r
    refine d_back hK25 ?_
    refine d1 (i := 23) (listed' := #[I_,I_,I_,I_,I_,I_,I_,I_,I_,I_,I_,I_,I_,I_,I_,I_,I_,I_,I_,I_,I_,I_,I_,I_,O_]) ?_
    have hR27 := (hS33.drop hO24).2.2
    obtain ⟨hO27, e27⟩ := hO24.dropS
    obtain ⟨y34, hy34, h⟩ := bindE h
    refine a_append (e := e_batonref25_Device) (xs := xl1_t3) (ys := [({ Id := y14.Id, Times := y19.Times, Gone := y24.Gone, Last := y29.Last } : T_batonref25_Device)]) Try.underlying29 I86 rfl (by decide) (by decide) rfl rfl hSl1_0 hO27 (Rd.cs hR27) e_batonref25_Device_len e_batonref25_Device1 hml1_0 hm33 hy34 ?_
    intro a34 m34 c34 S34a w26 hm34 hS34a hO26 e26
    have hK28 : Kept w20 _ _ w26 := Kept.to (e22.trans (e24.trans (e27.trans e26))) hO26.r
    refine d_back hK28 ?_
    refine d1 (i := 24) (listed' := #[I_,I_,I_,I_,I_,I_,I_,I_,I_,I_,I_,I_,I_,I_,I_,I_,I_,I_,I_,I_,I_,I_,I_,I_,I_]) ?_
    refine sv (r_assign (v := .slice _ _ _) rfl) ?_
    refine d_tail rfl ?_
    refine d_done (by kernel_rfl) ?_
    refine x_norm ?_
    refine c_next ?_
    refine c_reg ?_
    refine sv (r_move (v := .int _ _) rfl) ?_
    refine sv (r_addI (a := xl1_t4) (b := 1) rfl rfl) ?_
    refine sv (r_assign (v := .int _ _) rfl) ?_
    refine s_nil ?_
    refine l_end (m' := kl19) (Nat.lt_succ_self _) ?_
    rw [← Option.some.inj h] at hyl19
    exact ⟨y34, (w64 (xl1_t4 + 1)), a34, m34, c34, S34a, hyl19, rfl, rfl, rfl, hm34, hS34a, hO26, (e19.trans (e20.trans (e22.trans (e24.trans (e27.trans e26)))))⟩
  replace h := iF (nt hb21) h
  refine c_condF (congrArg Value.bool hb21) ?_
  refine c_exit ?_
  refine x_then ?_
  refine x_then ?_
  refine x_same ?_
  replace h := crossE h hyl19
  refine c_next ?_
  refine c_seq ?_
  refine c_reg ?_
  refine sv (r_move (v := .slice _ _ _) rfl) ?_
  refine sv (r_assign (v := .slice _ _ _) rfl) ?_
  refine s_nil ?_
  refine c_next ?_
  refine c_ret ?_
  refine e_1 (v := .slice _ _ _) Try.results34 rfl ?_
  rw [← Option.some.inj h]
  exact ⟨al1_0, ml1_0, cl1_0, Sl1_0, rfl, hml1_0, hSl1_0, hO20, (e19.trans e20)⟩
theorem c_batonlaw26_Ref (x0 : (List T_ticket_Ticket)) (aP0 : Option Addr) (mP0 cP0 : Nat)  (r : (List T_batonref26_Ticket)) (h : F_batonlaw26_Ref x0 = some r) (w : World) (L : Hp) (hm0p : x0.length = mP0) (hc0p : mP0 ≤ cP0) (hR0p : Rd w L aP0 (fl e_ticket_Ticket x0)) (hO : Own w L) :
    Calls Try.prog 35 #[(.slice aP0 mP0 cP0)] w fun en w' => ∃ (ra0 : Option Addr) (rm0 rc0 : Nat) (rS0 : Hp), en = .returned (.slice ra0 rm0 rc0) ∧ r.length = rm0 ∧ OwnSl 90 3 ra0 rm0 rc0 (fl e_batonref26_Ticket r) rS0 ∧ Own w' (rS0 ++ L) ∧ Ext w L w' (rS0 ++ L) := by
  unfold F_batonlaw26_Ref at h
  refine enter (n := 31) [(.slice aP0 mP0 cP0)] Try.func35 rfl rfl (Nat.le_of_ble_eq_true rfl) ?_
  refine c_seq ?_
  refine c_reg ?_
  refine sv (r_assign (v := .slice _ _ _) rfl) ?_
  refine s_nil ?_
  refine c_next ?_
  refine c_seq ?_
  refine c_reg ?_
  refine sv (r_assign (v := .slice _ _ _) rfl) ?_
  refine s_nil ?_
  refine c_next ?_
  refine c_seq ?_
  refine c_seq ?_
  refine c_reg ?_
  refine sv (r_assign (v := .int _ _) rfl) ?_
  refine s_nil ?_
  refine c_next ?_
  refine c_block ?_
  obtain ⟨kl19, hkl19⟩ := loop_iff.1 h
  clear h
  refine c_loopL hO (fun Lc f0 m g wl => ∃ (xl1_t3 : (List T_batonref26_Ticket)) (xl1_t4 : Int) (al1_0 : Option Addr) (ml1_0 cl1_0 : Nat) (Sl1_0 : Hp), (iterK (batonlaw26_Ref_l1 x0) m (xl1_t3, xl1_t4) = some r) ∧ g 0 = (.slice aP0 mP0 cP0) ∧ g 3 = (.slice al1_0 ml1_0 cl1_0) ∧ g 4 = (.int .i64 xl1_t4) ∧ xl1_t3.length = ml1_0 ∧ OwnSl 90 3 al1_0 ml1_0 cl1_0 (fl e_batonref26_Ticket xl1_t3) Sl1_0 ∧ Own wl (Sl1_0 ++ L) ∧ Ext w Lc wl (Sl1_0 ++ L)) kl19 ?_ ?_
  · skip
    exact ⟨[], 0, none, 0, 0, [], hkl19, rfl, rfl, rfl, rfl, (OwnSl.nil _ _), hO, (Ext.refl _ _)⟩
  clear hkl19
  intro mm19 gg19 w19 hI19
  obtain ⟨xl1_t3, xl1_t4, al1_0, ml1_0, cl1_0, Sl1_0, hkl19, hsl1_0, hsl1_3, hsl1_4, hml1_0, hSl1_0, hO19, e19⟩ := hI19
  obtain ⟨kl19, yl19, rfl, h, hyl19⟩ := iterE hkl19
  clear hkl19
  obtain ⟨qq19, rfl⟩ := fr3 hsl1_0 hsl1_3 hsl1_4
  clear hsl1_0 hsl1_3 hsl1_4
  refine c_seq ?_
  have hR0p := (hR0p.ext e19)
  obtain ⟨oc20, G20, hG20, h, hr20⟩ := bindG h
  refine c_cutL hO19 (fun Lc f0 g w' => ∃ (xc2_t8 : Bool), (G20 xc2_t8 = some yl19) ∧ g 0 = (.slice aP0 mP0 cP0) ∧ g 3 = (.slice al1_0 ml1_0 cl1_0) ∧ g 4 = (.int .i64 xl1_t4) ∧ g 8 = (.bool xc2_t8) ∧ Own w' (Sl1_0 ++ L) ∧ Ext w19 Lc w' (Sl1_0 ++ L)) ?_ ?_
  · skip
    refine c_reg ?_
    refine sv (r_move (v := .int _ _) rfl) ?_
    refine sv (r_move (v := .slice _ _ _) rfl) ?_
    refine sv (r_lenL (xs := x0) Try.underlying25 rfl hm0p) ?_
    refine c_lss rfl rfl (fun h8 => ?_) (fun h8 => ?_)
    · replace h := iT h8 h
      refine s_nil ?_
      refine c_next ?_
      rw [← Option.some.inj h] at hr20
      exact ⟨_, rfl, true, hr20, rfl, rfl, rfl, rfl, hO19, (Ext.refl _ _)⟩
    replace h := iF (Int.not_lt.2 h8) h
    refine s_nil ?_
    refine c_next ?_
    rw [← Option.some.inj h] at hr20
    exact ⟨_, rfl, false, hr20, rfl, rfl, rfl, rfl, hO19, (Ext.refl _ _)⟩
  intro gg20 w20 hI20
  clear h hr20
  obtain ⟨xc2_t8, h, hsc2_0, hsc2_3, hsc2_4, hsc2_8, hO20, e20⟩ := hI20
  replace h := hG_ hG20 h; clear hG20
  obtain ⟨qq20, rfl⟩ := fr4 hsc2_0 hsc2_3 hsc2_4 hsc2_8
  clear hsc2_0 hsc2_3 hsc2_4 hsc2_8
  rcases Bool.eq_false_or_eq_true (xc2_t8) with hb21 | hb21
  · replace h := iT hb21 h
    refine c_condT (congrArg Value.bool hb21) ?_
    refine c_skip ?_
    refine c_next ?_
    refine c_seq ?_
    refine c_block ?_
    have hR0p := (hR0p.ext e20)
    refine d_startL hO20 hO20.r 19 (by kernel_rfl) (pk_block (pk_then (pk_then (pk_block (pk_then pk_body))))) ?_
    intro hP23 wd23 hK23 hO22 e22
    refine dT (i := 0) (listed' := #[I_,O_,O_,O_,O_,O_,O_,O_,O_,O_,O_,O_,O_,O_,O_,O_,O_,O_,O_,O_]) rfl hP23 hK23 (fun wS hS => (r_move (v := .slice _ _ _) rfl)) ?_
    refine dT (i := 1) (listed' := #[I_,I_,O_,O_,O_,O_,O_,O_,O_,O_,O_,O_,O_,O_,O_,O_,O_,O_,O_,O_]) rfl hP23 hK23 (fun wS hS => (r_move (v := .slice _ _ _) rfl)) ?_
    refine dT (i := 2) (listed' := #[I_,I_,I_,O_,O_,O_,O_,O_,O_,O_,O_,O_,O_,O_,O_,O_,O_,O_,O_,O_]) rfl hP23 hK23 (fun wS hS => (r_move (v := .int _ _) rfl)) ?_
    obtain ⟨y14, hy14, h⟩ := bindE h
    obtain ⟨ad14, had14, hk14⟩ := ix_known (e := e_ticket_Ticket) (Rd.cs hR0p) e_ticket_Ticket_len (by decide) hy14
    have hx14 : Value.slice aP0 mP0 cP0 = .slice (some ad14) mP0 cP0 := by rw [had14]
    refine dT (i := 3) (listed' := #[I_,I_,I_,I_,O_,O_,O_,O_,O_,O_,O_,O_,O_,O_,O_,O_,O_,O_,O_,O_]) rfl hP23 hK23 (fun wS hS => (ra_idx (xs := x0) (i := xl1_t4) Try.underlying25 I59 (by exact hx14) (by rfl) hm0p hy14)) ?_
    refine dT (i := 4) (listed' := #[I_,I_,I_,I_,I_,O_,O_,O_,O_,O_,O_,O_,O_,O_,O_,O_,O_,O_,O_,O_]) rfl hP23 hK23 (fun wS hS => (r_fieldAddr Try.underlying59 rfl I3 (by decide) rfl)) ?_
    refine dT (i := 5) (listed' := #[I_,I_,I_,I_,I_,I_,O_,O_,O_,O_,O_,O_,O_,O_,O_,O_,O_,O_,O_,O_]) rfl hP23 hK23 (fun wS hS => (r_load1 (v := .int _ _) Try.underlying3 rfl rfl (cellP (hk14 _ (hR0p.kept hS)) 0 rfl))) ?_
    refine dT (i := 6) (listed' := #[I_,I_,I_,I_,I_,I_,I_,O_,O_,O_,O_,O_,O_,O_,O_,O_,O_,O_,O_,O_]) rfl hP23 hK23 (fun wS hS => (r_move (v := .slice _ _ _) rfl)) ?_
    refine dT (i := 7) (listed' := #[I_,I_,I_,I_,I_,I_,I_,I_,O_,O_,O_,O_,O_,O_,O_,O_,O_,O_,O_,O_]) rfl hP23 hK23 (fun wS hS => (r_move (v := .int _ _) rfl)) ?_
    obtain ⟨y19, hy19, h⟩ := bindE h
    obtain ⟨ad19, had19, hk19⟩ := ix_known (e := e_ticket_Ticket) (Rd.cs hR0p) e_ticket_Ticket_len (by decide) hy19
    have hx19 : Value.slice aP0 mP0 cP0 = .slice (some ad19) mP0 cP0 := by rw [had19]
    refine dT (i := 8) (listed' := #[I_,I_,I_,I_,I_,I_,I_,I_,I_,O_,O_,O_,O_,O_,O_,O_,O_,O_,O_,O_]) rfl hP23 hK23 (fun wS hS => (ra_idx (xs := x0) (i := xl1_t4) Try.underlying25 I59 (by exact hx19) (by rfl) hm0p hy19)) ?_
    refine dT (i := 9) (listed' := #[I_,I_,I_,I_,I_,I_,I_,I_,I_,I_,O_,O_,O_,O_,O_,O_,O_,O_,O_,O_]) rfl hP23 hK23 (fun wS hS => (r_fieldAddr Try.underlying59 rfl I3 (by decide) rfl)) ?_
    refine dT (i := 10) (listed' := #[I_,I_,I_,I_,I_,I_,I_,I_,I_,I_,I_,O_,O_,O_,O_,O_,O_,O_,O_,O_]) rfl hP23 hK23 (fun wS hS => (r_load1 (v := .int _ _) Try.underlying3 rfl rfl (cellP (hk19 _ (hR0p.kept hS)) 1 rfl))) ?_
    refine dT (i := 11) (listed' := #[I_,I_,I_,I_,I_,I_,I_,I_,I_,I_,I_,I_,O_,O_,O_,O_,O_,O_,O_,O_]) rfl hP23 hK23 (fun wS hS => (r_move (v := .slice _ _ _) rfl)) ?_
    refine dT (i := 12) (listed' := #[I_,I_,I_,I_,I_,I_,I_,I_,I_,I_,I_,I_,I_,O_,O_,O_,O_,O_,O_,O_]) rfl hP23 hK23 (fun wS hS => (r_move (v := .int _ _) rfl)) ?_
    obtain ⟨y24, hy24, h⟩ := bindE h
    obtain ⟨ad24, had24, hk24⟩ := ix_known (e := e_ticket_Ticket) (Rd.cs hR0p) e_ticket_Ticket_len (by decide) hy24
    have hx24 : Value.slice aP0 mP0 cP0 = .slice (some ad24) mP0 cP0 := by rw [had24]
    refine dT (i := 13) (listed' := #[I_,I_,I_,I_,I_,I_,I_,I_,I_,I_,I_,I_,I_,I_,O_,O_,O_,O_,O_,O_]) rfl hP23 hK23 (fun wS hS => (ra_idx (xs := x0) (i := xl1_t4) Try.underlying25 I59 (by exact hx24) (by rfl) hm0p hy24)) ?_
    refine dT (i := 14) (listed' := #[I_,I_,I_,I_,I_,I_,I_,I_,I_,I_,I_,I_,I_,I_,I_,O_,O_,O_,O_,O_]) rfl hP23 hK23 (fun wS hS => (r_fieldAddr Try.underlying59 rfl I3 (by decide) rfl)) ?_
    refine dT (i := 15) (listed' := #[I_,I_,I_,I_,I_,I_,I_,I_,I_,I_,I_,I_,I_,I_,I_,I_,O_,O_,O_,O_]) rfl hP23 hK23 (fun wS hS => (r_load1 (v := .int _ _) Try.underlying3 rfl rfl (cellP (hk24 _ (hR0p.kept hS)) 2 rfl))) ?_
    refine dT (i := 16) (listed' := #[I_,I_,I_,I_,I_,I_,I_,I_,I_,I_,I_,I_,I_,I_,I_,I_,I_,O_,O_,O_]) rfl hP23 hK23 (fun wS hS => (r_build (vs := [(0, (.int .i64 y14.No)), (1, (.int .i64 y19.For)), (2, (.int .i64 y24.Until))]) (cells := #[(.int .i64 y14.No), (.int .i64 y19.For), (.int .i64 y24.Until)]) I90 pl90 rfl (by kernel_rfl))) ?_
    refine d1 (i := 17) (listed' := #[I_,I_,I_,I_,I_,I_,I_,I_,I_,I_,I_,I_,I_,I_,I_,I_,I_,I_,O_,O_]) ?_
    refine a_lit (en := e_batonref26_Ticket) (xs := [({ No := y14.No, For := y19.For, Until := y24.Until } : T_batonref26_Ticket)]) (vs := [(.agg #[(.int .i64 y14.No), (.int .i64 y19.For), (.int .i64 y24.Until)])]) Try.underlying30 I90 hO22 rfl rfl (by simp [Value.cells]) (by decide) rfl e_batonref26_Ticket_len rfl (by decide) ?_
    intro a28 m28 c28 S28 w24 hm28 hS28 hO24 e24
    have hK25 : Kept w20 _ _ w24 := Kept.to (e22.trans e24) hO24.r.r
    refine d_back hK25 ?_
    refine d1 (i := 18) (listed' := #[I_,I_,I_,I_,I_,I_,I_,I_,I_,I_,I_,I_,I_,I_,I_,I_,I_,I_,I_,O_]) ?_
    have hR27 := (hS28.drop hO24).2.2
    obtain ⟨hO27, e27⟩ := hO24.dropS
    obtain ⟨y29, hy29, h⟩ := bindE h
    refine a_append (e := e_batonref26_Ticket) (xs := xl1_t3) (ys := [({ No := y14.No, For := y19.For, Until := y24.Until } : T_batonref26_Ticket)]) Try.underlying30 I90 rfl (by decide) (by decide) rfl rfl hSl1_0 hO27 (Rd.cs hR27) e_batonref26_Ticket_len e_batonref26_Ticket1 hml1_0 hm28 hy29 ?_
    intro a29 m29 c29 S29a w26 hm29 hS29a hO26 e26
    have hK28 : Kept w20 _ _ w26 := Kept.to (e22.trans (e24.trans (e27.trans e26))) hO26.r
    refine d_back hK28 ?_
    refine d1 (i := 19) (listed' := #[I_,I_,I_,I_,I_,I_,I_,I_,I_,I_,I_,I_,I_,I_,I_,I_,I_,I_,I_,I_]) ?_
    refine sv (r_assign (v := .slice _ _ _) rfl) ?_
    refine d_tail rfl ?_
    refine d_done (by kernel_rfl) ?_
    refine x_norm ?_
    refine c_next ?_
    refine c_reg ?_
    refine sv (r_move (v := .int _ _) rfl) ?_
    refine sv (r_addI (a := xl1_t4) (b := 1) rfl rfl) ?_
    refine sv (r_assign (v := .int _ _) rfl) ?_
    refine s_nil ?_
    refine l_end (m' := kl19) (Nat.lt_succ_self _) ?_
    rw [← Option.some.inj h] at hyl19
    exact ⟨y29, (w64 (xl1_t4 + 1)), a29, m29, c29, S29a, hyl19, rfl, rfl, rfl, hm29, hS29a, hO26, (e19.trans (e20.trans (e22.trans (e24.trans (e27.trans e26)))))⟩
  replace h := iF (nt hb21) h
  refine c_condF (congrArg Value.bool hb21) ?_
  refine c_exit ?_
  refine x_then ?_
  refine x_then ?_
  refine x_same ?_
  replace h := crossE h hyl19
  refine c_next ?_
  refine c_seq ?_
  refine c_reg ?_
  refine sv (r_move (v := .slice _ _ _) rfl) ?_
  refine sv (r_assign (v := .slice _ _ _) rfl) ?_
  refine s_nil ?_
  refine c_next ?_
  refine c_ret ?_
  refine e_1 (v := .slice _ _ _) Try.results35 rfl ?_
  rw [← Option.some.inj h]
  exact ⟨al1_0, ml1_0, cl1_0, Sl1_0, rfl, hml1_0, hSl1_0, hO20, (e19.trans e20)⟩
theorem c_batonlaw27_Ref (x0 : T_claim_State) (aP0 : Option Addr) (mP0 cP0 : Nat) (aP1 : Option Addr) (mP1 cP1 : Nat)  (r : T_batonref27_State) (h : F_batonlaw27_Ref x0 = some r) (w : World) (L : Hp) (hm0p : x0.Roster.length = mP0) (hc0p : mP0 ≤ cP0) (hR0p : Rd w L aP0 (fl e_roster_Device x0.Roster)) (hm1p : x0.Tickets.length = mP1) (hc1p : mP1 ≤ cP1) (hR1p : Rd w L aP1 (fl e_ticket_Ticket x0.Tickets)) (hO : Own w L) :
    Calls Try.prog 13 #[(.agg #[(.int .i64 x0.Epoch), (.int .i64 x0.Owner), (.int .i64 x0.Next), (.slice aP0 mP0 cP0), (.slice aP1 mP1 cP1)])] w fun en w' => ∃ (ra0 : Option Addr) (rm0 rc0 : Nat) (rS0 : Hp) (ra1 : Option Addr) (rm1 rc1 : Nat) (rS1 : Hp), en = .returned (.agg #[(.int .i64 r.Epoch), (.int .i64 r.Owner), (.int .i64 r.Next), (.slice ra0 rm0 rc0), (.slice ra1 rm1 rc1)]) ∧ r.Roster.length = rm0 ∧ OwnSl 86 4 ra0 rm0 rc0 (fl e_batonref25_Device r.Roster) rS0 ∧ r.Tickets.length = rm1 ∧ OwnSl 90 3 ra1 rm1 rc1 (fl e_batonref26_Ticket r.Tickets) rS1 ∧ Own w' (rS0 ++ (rS1 ++ L)) ∧ Ext w L w' (rS0 ++ (rS1 ++ L)) := by
  unfold F_batonlaw27_Ref at h
  refine enter (n := 16) [(.agg #[(.int .i64 x0.Epoch), (.int .i64 x0.Owner), (.int .i64 x0.Next), (.slice aP0 mP0 cP0), (.slice aP1 mP1 cP1)])] Try.func13 rfl rfl (Nat.le_of_ble_eq_true rfl) ?_
  refine c_seq ?_
  refine c_reg ?_
  refine s_box (v := (.agg #[(.int .i64 x0.Epoch), (.int .i64 x0.Owner), (.int .i64 x0.Next), (.slice aP0 mP0 cP0), (.slice aP1 mP1 cP1)])) rfl hO ?_
  intro b1 w3 hz1 hl1 hO3 e3
  have hO4 : Own w3 ((b1, .cells #[(.int .i64 x0.Epoch), (.int .i64 x0.Owner), (.int .i64 x0.Next), (.slice aP0 mP0 cP0), (.slice aP1 mP1 cP1)] 27 (0, 0)) :: L) := hO3
  refine s_alloc I32 hO4 ?_
  intro b2 w6 hz2 hl2 hO6 e6
  have hO7 : Own w6 ((b2, .cells #[(.int .i64 0), (.int .i64 0), (.int .i64 0), (.slice none 0 0), (.slice none 0 0)] 32 (0, 0)) :: ((b1, .cells #[(.int .i64 x0.Epoch), (.int .i64 x0.Owner), (.int .i64 x0.Next), (.slice aP0 mP0 cP0), (.slice aP1 mP1 cP1)] 27 (0, 0)) :: L)) := hO6
  refine s_nil ?_
  refine c_next ?_
  refine c_seq ?_
  have hR0p := (hR0p.ext (e3.trans e6))
  have hR1p := (hR1p.ext (e3.trans e6))
  refine d_startL hO7 hO7.t 13 (by kernel_rfl) (pk_then pk_body) ?_
  intro hP10 wd10 hK10 hO9 e9
  refine dT (i := 0) (listed' := #[I_,O_,O_,O_,O_,O_,O_,O_,O_,O_,O_,O_,O_,O_]) rfl hP10 hK10 (fun wS hS => (r_fieldAddr Try.underlying27 rfl I3 (by decide) rfl)) ?_
  refine dT (i := 1) (listed' := #[I_,I_,O_,O_,O_,O_,O_,O_,O_,O_,O_,O_,O_,O_]) rfl hP10 hK10 (fun wS hS => (r_load1 (v := .int _ _) Try.underlying3 rfl rfl (cellB (hS.own.get (i := 0) rfl) rfl rfl))) ?_
  refine dT (i := 2) (listed' := #[I_,I_,I_,O_,O_,O_,O_,O_,O_,O_,O_,O_,O_,O_]) rfl hP10 hK10 (fun wS hS => (r_fieldAddr Try.underlying27 rfl I3 (by decide) rfl)) ?_
  refine dT (i := 3) (listed' := #[I_,I_,I_,I_,O_,O_,O_,O_,O_,O_,O_,O_,O_,O_]) rfl hP10 hK10 (fun wS hS => (r_load1 (v := .int _ _) Try.underlying3 rfl rfl (cellB (hS.own.get (i := 0) rfl) rfl rfl))) ?_
  refine dT (i := 4) (listed' := #[I_,I_,I_,I_,I_,O_,O_,O_,O_,O_,O_,O_,O_,O_]) rfl hP10 hK10 (fun wS hS => (r_fieldAddr Try.underlying27 rfl I3 (by decide) rfl)) ?_
  refine dT (i := 5) (listed' := #[I_,I_,I_,I_,I_,I_,O_,O_,O_,O_,O_,O_,O_,O_]) rfl hP10 hK10 (fun wS hS => (r_load1 (v := .int _ _) Try.underlying3 rfl rfl (cellB (hS.own.get (i := 0) rfl) rfl rfl))) ?_
  refine dT (i := 6) (listed' := #[I_,I_,I_,I_,I_,I_,I_,O_,O_,O_,O_,O_,O_,O_]) rfl hP10 hK10 (fun wS hS => (r_fieldAddr Try.underlying27 rfl I24 (by decide) rfl)) ?_
  refine dT (i := 7) (listed' := #[I_,I_,I_,I_,I_,I_,I_,I_,O_,O_,O_,O_,O_,O_]) rfl hP10 hK10 (fun wS hS => (r_load1 (v := .slice _ _ _) Try.underlying24 rfl rfl (cellB (hS.own.get (i := 0) rfl) rfl rfl))) ?_
  refine dT (i := 9) (listed' := #[I_,I_,I_,I_,I_,I_,I_,I_,O_,I_,O_,O_,O_,O_]) rfl hP10 hK10 (fun wS hS => (r_fieldAddr Try.underlying27 rfl I25 (by decide) rfl)) ?_
  refine dT (i := 10) (listed' := #[I_,I_,I_,I_,I_,I_,I_,I_,O_,I_,I_,O_,O_,O_]) rfl hP10 hK10 (fun wS hS => (r_load1 (v := .slice _ _ _) Try.underlying25 rfl rfl (cellB (hS.own.get (i := 0) rfl) rfl rfl))) ?_
  refine d1 (i := 8) (listed' := #[I_,I_,I_,I_,I_,I_,I_,I_,I_,I_,I_,O_,O_,O_]) ?_
  obtain ⟨y11, hy11, h⟩ := bindE h
  refine s_call cf34 rfl (c_batonlaw25_Ref x0.Roster aP0 mP0 cP0 _ hy11 _ _ hm0p hc0p (hR0p.ext e9) hO9) ?_
  rintro er11 w11 ⟨a11_0, m11_0, c11_0, S11_0, rfl, hm11_0, hS11_0, hO11, e11⟩
  refine ⟨_, rfl, ?_⟩
  have hK12 : Kept w6 _ _ w11 := Kept.to (e9.trans e11) hO11.r.t
  refine d_back hK12 ?_
  refine d1 (i := 11) (listed' := #[I_,I_,I_,I_,I_,I_,I_,I_,I_,I_,I_,I_,O_,O_]) ?_
  obtain ⟨y14, hy14, h⟩ := bindE h
  refine s_call cf35 rfl (c_batonlaw26_Ref x0.Tickets aP1 mP1 cP1 _ hy14 _ _ hm1p hc1p (hR1p.ext (e9.trans e11)) hO11) ?_
  rintro er14 w13 ⟨a14_0, m14_0, c14_0, S14_0, rfl, hm14_0, hS14_0, hO13, e13⟩
  refine ⟨_, rfl, ?_⟩
  have hK14 : Kept w6 _ _ w13 := Kept.to (e9.trans (e11.trans e13)) hO13.r.r.t
  refine d_back hK14 ?_
  refine dT (i := 12) (listed' := #[I_,I_,I_,I_,I_,I_,I_,I_,I_,I_,I_,I_,I_,O_]) rfl hP10 hK14 (fun wS hS => (r_build (vs := [(0, (.int .i64 x0.Epoch)), (1, (.int .i64 x0.Owner)), (2, (.int .i64 x0.Next)), (3, (.slice a11_0 m11_0 c11_0)), (4, (.slice a14_0 m14_0 c14_0))]) (cells := #[(.int .i64 x0.Epoch), (.int .i64 x0.Owner), (.int .i64 x0.Next), (.slice a11_0 m11_0 c11_0), (.slice a14_0 m14_0 c14_0)]) I32 pl32 rfl (by kernel_rfl))) ?_
  refine d1 (i := 13) (listed' := #[I_,I_,I_,I_,I_,I_,I_,I_,I_,I_,I_,I_,I_,I_]) ?_
  obtain ⟨hO16, e16⟩ := hO13.permE (pmbA (pmbA pmb0))
  refine s_storeN (vs := #[(.int .i64 x0.Epoch), (.int .i64 x0.Owner), (.int .i64 x0.Next), (.slice a11_0 m11_0 c11_0), (.slice a14_0 m14_0 c14_0)]) I32 rfl rfl rfl hO16 (i := 0) rfl (Nat.le_of_ble_eq_true rfl) (List.all_eq_true.1 rfl) ?_
  intro w15 hO15 e15
  have hO17 : Own w15 ((b2, .cells #[(.int .i64 x0.Epoch), (.int .i64 x0.Owner), (.int .i64 x0.Next), (.slice a11_0 m11_0 c11_0), (.slice a14_0 m14_0 c14_0)] 32 (0, 0)) :: (S14_0 ++ (S11_0 ++ ((b1, .cells #[(.int .i64 x0.Epoch), (.int .i64 x0.Owner), (.int .i64 x0.Next), (.slice aP0 mP0 cP0), (.slice aP1 mP1 cP1)] 27 (0, 0)) :: L)))) := hO15
  refine d_tail rfl ?_
  refine d_done (by kernel_rfl) ?_
  refine c_next ?_
  refine c_ret ?_
  refine e_r1 Try.results13 (rv_agg Try.underlying32 rfl I32 rfl (hO17.get (i := 0) rfl) rfl rfl) ?_
  obtain ⟨hO19, e19⟩ := hO17.drop1
  obtain ⟨hO20, e20⟩ := hO19.permE (pmbA (pmbA pmb0))
  obtain ⟨hO21, e21⟩ := hO20.drop1
  obtain ⟨hO22, e22⟩ := hO21.permE (pmA pm0)
  rw [← Option.some.inj h]
  exact ⟨a11_0, m11_0, c11_0, S11_0, a14_0, m14_0, c14_0, S14_0, rfl, hm11_0, hS11_0, hm14_0, hS14_0, hO22, (e3.trans (e6.trans (e9.trans (e11.trans (e13.trans (e16.trans (e15.trans (e19.trans (e20.trans (e21.trans e22))))))))))⟩
theorem c_batonref25_Same (x0 : (List T_batonref25_Device)) (x1 : (List T_batonref25_Device)) (aP0 : Option Addr) (mP0 cP0 : Nat) (aP1 : Option Addr) (mP1 cP1 : Nat)  (r : Bool) (h : F_batonref25_Same x0 x1 = some r) (w : World) (L : Hp) (hm0p : x0.length = mP0) (hc0p : mP0 ≤ cP0) (hR0p : Rd w L aP0 (fl e_batonref25_Device x0)) (hm1p : x1.length = mP1) (hc1p : mP1 ≤ cP1) (hR1p : Rd w L aP1 (fl e_batonref25_Device x1)) (hO : Own w L) :
    Calls Try.prog 32 #[(.slice aP0 mP0 cP0), (.slice aP1 mP1 cP1)] w fun en w' => en = .returned (.bool r) ∧ Own w' L ∧ Ext w L w' L := by
  unfold F_batonref25_Same at h
  refine enter (n := 26) [(.slice aP0 mP0 cP0), (.slice aP1 mP1 cP1)] Try.func32 rfl rfl (Nat.le_of_ble_eq_true rfl) ?_
  refine c_seq ?_
  refine c_reg ?_
  refine sv (r_assign (v := .bool false) rfl) ?_
  refine s_nil ?_
  refine c_next ?_
  refine c_seq ?_
  obtain ⟨oc1, G1, hG1, h, hr1⟩ := bindG h
  refine c_cutL hO (fun Lc f0 g w' => ∃ (xc1_t10 : Bool), (G1 xc1_t10 = some r) ∧ g 0 = (.slice aP0 mP0 cP0) ∧ g 1 = (.slice aP1 mP1 cP1) ∧ g 10 = (.bool xc1_t10) ∧ Own w' L ∧ Ext w Lc w' L) ?_ ?_
  · skip
    refine c_reg ?_
    refine sv (r_move (v := .slice _ _ _) rfl) ?_
    refine sv (r_lenL (xs := x0) Try.underlying29 rfl hm0p) ?_
    refine sv (r_move (v := .slice _ _ _) rfl) ?_
    refine sv (r_lenL (xs := x1) Try.underlying29 rfl hm1p) ?_
    refine c_neq rfl rfl (fun h10 => ?_) (fun h10 => ?_)
    · replace h := iT h10 h
      refine s_nil ?_
      refine c_next ?_
      rw [← Option.some.inj h] at hr1
      exact ⟨_, rfl, true, hr1, rfl, rfl, rfl, hO, (Ext.refl _ _)⟩
    replace h := iF (Classical.not_not.2 h10) h
    refine s_nil ?_
    refine c_next ?_
    rw [← Option.some.inj h] at hr1
    exact ⟨_, rfl, false, hr1, rfl, rfl, rfl, hO, (Ext.refl _ _)⟩
  intro gg1 w1 hI1
  clear h hr1
  obtain ⟨xc1_t10, h, hsc1_0, hsc1_1, hsc1_10, hO1, e1⟩ := hI1
  replace h := hG_ hG1 h; clear hG1
  obtain ⟨qq1, rfl⟩ := fr3 hsc1_0 hsc1_1 hsc1_10
  clear hsc1_0 hsc1_1 hsc1_10
  rcases Bool.eq_false_or_eq_true (xc1_t10) with hb2 | hb2
  · replace h := iT hb2 h
    refine c_condT (congrArg Value.bool hb2) ?_
    refine c_seq ?_
    refine c_reg ?_
    refine sv (r_assign (v := .bool false) rfl) ?_
    refine s_nil ?_
    refine c_next ?_
    refine c_ret ?_
    refine r_then ?_
    refine e_1 (v := .bool false) Try.results32 rfl ?_
    rw [← Option.some.inj h]
    exact ⟨rfl, hO1, e1⟩
  replace h := iF (nt hb2) h
  refine c_condF (congrArg Value.bool hb2) ?_
  refine c_skip ?_
  refine c_next ?_
  refine c_seq ?_
  refine c_seq ?_
  refine c_reg ?_
  refine sv (r_assign (v := .int _ _) rfl) ?_
  refine s_nil ?_
  refine c_next ?_
  refine c_block ?_
  have hR0p := (hR0p.ext e1)
  have hR1p := (hR1p.ext e1)
  obtain ⟨kl9, hkl9⟩ := loop_iff.1 h
  clear h
  refine c_loopL hO1 (fun Lc f0 m g wl => ∃ (xl2_t5 : Int), (iterK (batonref25_Same_l2 x0 x1) m xl2_t5 = some r) ∧ g 0 = (.slice aP0 mP0 cP0) ∧ g 1 = (.slice aP1 mP1 cP1) ∧ g 5 = (.int .i64 xl2_t5) ∧ Own wl L ∧ Ext w1 Lc wl L) kl9 ?_ ?_
  · skip
    exact ⟨0, hkl9, rfl, rfl, rfl, hO1, (Ext.refl _ _)⟩
  clear hkl9
  intro mm9 gg9 w9 hI9
  obtain ⟨xl2_t5, hkl9, hsl2_0, hsl2_1, hsl2_5, hO9, e9⟩ := hI9
  obtain ⟨kl9, yl9, rfl, h, hyl9⟩ := iterE hkl9
  clear hkl9
  obtain ⟨qq9, rfl⟩ := fr3 hsl2_0 hsl2_1 hsl2_5
  clear hsl2_0 hsl2_1 hsl2_5
  refine c_seq ?_
  refine c_seq ?_
  refine c_reg ?_
  refine sv (r_move (v := .int _ _) rfl) ?_
  refine sv (r_move (v := .slice _ _ _) rfl) ?_
  refine sv (r_lenL (xs := x0) Try.underlying29 rfl hm0p) ?_
  refine c_lss rfl rfl (fun h14 => ?_) (fun h14 => ?_)
  · replace h := iT h14 h
    refine s_nil ?_
    refine c_next ?_
    refine c_condT rfl ?_
    refine c_skip ?_
    refine c_next ?_
    refine c_seq ?_
    refine c_block ?_
    refine c_seq ?_
    have hR0p := (hR0p.ext e9)
    have hR1p := (hR1p.ext e9)
    refine d_startL hO9 hO9 9 (by kernel_rfl) (pk_then (pk_block (pk_then (pk_then (pk_block (pk_then pk_body)))))) ?_
    intro hP11 wd11 hK11 hO10 e10
    refine dT (i := 0) (listed' := #[I_,O_,O_,O_,O_,O_,O_,O_,O_]) rfl hP11 hK11 (fun wS hS => (r_move (v := .slice _ _ _) rfl)) ?_
    refine dT (i := 1) (listed' := #[I_,I_,O_,O_,O_,O_,O_,O_,O_]) rfl hP11 hK11 (fun wS hS => (r_move (v := .int _ _) rfl)) ?_
    obtain ⟨y19, hy19, h⟩ := bindE h
    obtain ⟨ad19, had19, hk19⟩ := ix_known (e := e_batonref25_Device) (Rd.cs hR0p) e_batonref25_Device_len (by decide) hy19
    have hx19 : Value.slice aP0 mP0 cP0 = .slice (some ad19) mP0 cP0 := by rw [had19]
    refine dT (i := 2) (listed' := #[I_,I_,I_,O_,O_,O_,O_,O_,O_]) rfl hP11 hK11 (fun wS hS => (ra_idx (xs := x0) (i := xl2_t5) Try.underlying29 I86 (by exact hx19) (by rfl) hm0p hy19)) ?_
    refine dT (i := 3) (listed' := #[I_,I_,I_,I_,O_,O_,O_,O_,O_]) rfl hP11 hK11 (fun wS hS => (r_loadN (cs := [(.int .i64 y19.Id), (.int .i64 y19.Times), (.bool y19.Gone), (.int .i64 y19.Last)]) Try.underlying86 rfl I86 rfl rfl (hk19 _ (hR0p.kept hS)))) ?_
    refine dT (i := 4) (listed' := #[I_,I_,I_,I_,I_,O_,O_,O_,O_]) rfl hP11 hK11 (fun wS hS => (r_move (v := .slice _ _ _) rfl)) ?_
    refine dT (i := 5) (listed' := #[I_,I_,I_,I_,I_,I_,O_,O_,O_]) rfl hP11 hK11 (fun wS hS => (r_move (v := .int _ _) rfl)) ?_
    obtain ⟨y23, hy23, h⟩ := bindE h
    obtain ⟨ad23, had23, hk23⟩ := ix_known (e := e_batonref25_Device) (Rd.cs hR1p) e_batonref25_Device_len (by decide) hy23
    have hx23 : Value.slice aP1 mP1 cP1 = .slice (some ad23) mP1 cP1 := by rw [had23]
    refine dT (i := 6) (listed' := #[I_,I_,I_,I_,I_,I_,I_,O_,O_]) rfl hP11 hK11 (fun wS hS => (ra_idx (xs := x1) (i := xl2_t5) Try.underlying29 I86 (by exact hx23) (by rfl) hm1p hy23)) ?_
    refine dT (i := 7) (listed' := #[I_,I_,I_,I_,I_,I_,I_,I_,O_]) rfl hP11 hK11 (fun wS hS => (r_loadN (cs := [(.int .i64 y23.Id), (.int .i64 y23.Times), (.bool y23.Gone), (.int .i64 y23.Last)]) Try.underlying86 rfl I86 rfl rfl (hk23 _ (hR1p.kept hS)))) ?_
    refine dT (i := 8) (listed' := #[I_,I_,I_,I_,I_,I_,I_,I_,I_]) rfl hP11 hK11 (fun wS hS => (r_stNe (u := y19) (v := y23) (by kernel_rfl) (fun D => eq_86 D _ _ _) rfl rfl)) ?_
    refine d_done (by kernel_rfl) ?_
    refine c_next ?_
    rcases Bool.eq_false_or_eq_true ((decide (y19 = y23))) with hb12 | hb12
    · replace h := iT hb12 h
      refine c_condF (congrArg Value.bool (nnt hb12)) ?_
      refine c_skip ?_
      refine x_norm ?_
      refine c_next ?_
      refine c_reg ?_
      refine sv (r_move (v := .int _ _) rfl) ?_
      refine sv (r_addI (a := xl2_t5) (b := 1) rfl rfl) ?_
      refine sv (r_assign (v := .int _ _) rfl) ?_
      refine s_nil ?_
      refine l_end (m' := kl9) (Nat.lt_succ_self _) ?_
      rw [← Option.some.inj h] at hyl9
      exact ⟨(w64 (xl2_t5 + 1)), hyl9, rfl, rfl, rfl, hO10, (e9.trans e10)⟩
    replace h := iF (nt hb12) h
    refine c_condT (congrArg Value.bool (nnf hb12)) ?_
    refine c_seq ?_
    refine c_reg ?_
    refine sv (r_assign (v := .bool false) rfl) ?_
    refine s_nil ?_
    refine c_next ?_
    refine c_ret ?_
    refine r_block ?_
    refine r_then ?_
    refine r_then ?_
    refine r_block ?_
    refine r_then ?_
    replace h := crossE h hyl9
    refine e_1 (v := .bool false) Try.results32 rfl ?_
    rw [← Option.some.inj h]
    exact ⟨rfl, hO10, (e1.trans (e9.trans e10))⟩
  replace h := iF (Int.not_lt.2 h14) h
  refine s_nil ?_
  refine c_next ?_
  refine c_condF rfl ?_
  refine c_exit ?_
  refine x_then ?_
  refine x_then ?_
  refine x_same ?_
  replace h := crossE h hyl9
  refine c_next ?_
  refine c_seq ?_
  refine c_reg ?_
  refine sv (r_assign (v := .bool true) rfl) ?_
  refine s_nil ?_
  refine c_next ?_
  refine c_ret ?_
  refine e_1 (v := .bool true) Try.results32 rfl ?_
  rw [← Option.some.inj h]
  exact ⟨rfl, hO9, (e1.trans e9)⟩
theorem c_batonref26_Same (x0 : (List T_batonref26_Ticket)) (x1 : (List T_batonref26_Ticket)) (aP0 : Option Addr) (mP0 cP0 : Nat) (aP1 : Option Addr) (mP1 cP1 : Nat)  (r : Bool) (h : F_batonref26_Same x0 x1 = some r) (w : World) (L : Hp) (hm0p : x0.length = mP0) (hc0p : mP0 ≤ cP0) (hR0p : Rd w L aP0 (fl e_batonref26_Ticket x0)) (hm1p : x1.length = mP1) (hc1p : mP1 ≤ cP1) (hR1p : Rd w L aP1 (fl e_batonref26_Ticket x1)) (hO : Own w L) :
    Calls Try.prog 33 #[(.slice aP0 mP0 cP0), (.slice aP1 mP1 cP1)] w fun en w' => en = .returned (.bool r) ∧ Own w' L ∧ Ext w L w' L := by
  unfold F_batonref26_Same at h
  refine enter (n := 26) [(.slice aP0 mP0 cP0), (.slice aP1 mP1 cP1)] Try.func33 rfl rfl (Nat.le_of_ble_eq_true rfl) ?_
  refine c_seq ?_
  refine c_reg ?_
  refine sv (r_assign (v := .bool false) rfl) ?_
  refine s_nil ?_
  refine c_next ?_
  refine c_seq ?_
  obtain ⟨oc1, G1, hG1, h, hr1⟩ := bindG h
  refine c_cutL hO (fun Lc f0 g w' => ∃ (xc1_t10 : Bool), (G1 xc1_t10 = some r) ∧ g 0 = (.slice aP0 mP0 cP0) ∧ g 1 = (.slice aP1 mP1 cP1) ∧ g 10 = (.bool xc1_t10) ∧ Own w' L ∧ Ext w Lc w' L) ?_ ?_
  · skip
    refine c_reg ?_
    refine sv (r_move (v := .slice _ _ _) rfl) ?_
    refine sv (r_lenL (xs := x0) Try.underlying30 rfl hm0p) ?_
    refine sv (r_move (v := .slice _ _ _) rfl) ?_
    refine sv (r_lenL (xs := x1) Try.underlying30 rfl hm1p) ?_
    refine c_neq rfl rfl (fun h10 => ?_) (fun h10 => ?_)
    · replace h := iT h10 h
      refine s_nil ?_
      refine c_next ?_
      rw [← Option.some.inj h] at hr1
      exact ⟨_, rfl, true, hr1, rfl, rfl, rfl, hO, (Ext.refl _ _)⟩
    replace h := iF (Classical.not_not.2 h10) h
    refine s_nil ?_
    refine c_next ?_
    rw [← Option.some.inj h] at hr1
    exact ⟨_, rfl, false, hr1, rfl, rfl, rfl, hO, (Ext.refl _ _)⟩
  intro gg1 w1 hI1
  clear h hr1
  obtain ⟨xc1_t10, h, hsc1_0, hsc1_1, hsc1_10, hO1, e1⟩ := hI1
  replace h := hG_ hG1 h; clear hG1
  obtain ⟨qq1, rfl⟩ := fr3 hsc1_0 hsc1_1 hsc1_10
  clear hsc1_0 hsc1_1 hsc1_10
  rcases Bool.eq_false_or_eq_true (xc1_t10) with hb2 | hb2
  · replace h := iT hb2 h
    refine c_condT (congrArg Value.bool hb2) ?_
    refine c_seq ?_
    refine c_reg ?_
    refine sv (r_assign (v := .bool false) rfl) ?_
    refine s_nil ?_
    refine c_next ?_
    refine c_ret ?_
    refine r_then ?_
    refine e_1 (v := .bool false) Try.results33 rfl ?_
    rw [← Option.some.inj h]
    exact ⟨rfl, hO1, e1⟩
  replace h := iF (nt hb2) h
  refine c_condF (congrArg Value.bool hb2) ?_
  refine c_skip ?_
  refine c_next ?_
  refine c_seq ?_
  refine c_seq ?_
  refine c_reg ?_
  refine sv (r_assign (v := .int _ _) rfl) ?_
  refine s_nil ?_
  refine c_next ?_
  refine c_block ?_
  have hR0p := (hR0p.ext e1)
  have hR1p := (hR1p.ext e1)
  obtain ⟨kl9, hkl9⟩ := loop_iff.1 h
  clear h
  refine c_loopL hO1 (fun Lc f0 m g wl => ∃ (xl2_t5 : Int), (iterK (batonref26_Same_l2 x0 x1) m xl2_t5 = some r) ∧ g 0 = (.slice aP0 mP0 cP0) ∧ g 1 = (.slice aP1 mP1 cP1) ∧ g 5 = (.int .i64 xl2_t5) ∧ Own wl L ∧ Ext w1 Lc wl L) kl9 ?_ ?_
  · skip
    exact ⟨0, hkl9, rfl, rfl, rfl, hO1, (Ext.refl _ _)⟩
  clear hkl9
  intro mm9 gg9 w9 hI9
  obtain ⟨xl2_t5, hkl9, hsl2_0, hsl2_1, hsl2_5, hO9, e9⟩ := hI9
  obtain ⟨kl9, yl9, rfl, h, hyl9⟩ := iterE hkl9
  clear hkl9
  obtain ⟨qq9, rfl⟩ := fr3 hsl2_0 hsl2_1 hsl2_5
  clear hsl2_0 hsl2_1 hsl2_5
  refine c_seq ?_
  refine c_seq ?_
  refine c_reg ?_
  refine sv (r_move (v := .int _ _) rfl) ?_
  refine sv (r_move (v := .slice _ _ _) rfl) ?_
  refine sv (r_lenL (xs := x0) Try.underlying30 rfl hm0p) ?_
  refine c_lss rfl rfl (fun h14 => ?_) (fun h14 => ?_)
  · replace h := iT h14 h
    refine s_nil ?_
    refine c_next ?_
    refine c_condT rfl ?_
    refine c_skip ?_
    refine c_next ?_
    refine c_seq ?_
    refine c_block ?_
    refine c_seq ?_
    have hR0p := (hR0p.ext e9)
    have hR1p := (hR1p.ext e9)
    refine d_startL hO9 hO9 9 (by kernel_rfl) (pk_then (pk_block (pk_then (pk_then (pk_block (pk_then pk_body)))))) ?_
    intro hP11 wd11 hK11 hO10 e10
    refine dT (i := 0) (listed' := #[I_,O_,O_,O_,O_,O_,O_,O_,O_]) rfl hP11 hK11 (fun wS hS => (r_move (v := .slice _ _ _) rfl)) ?_
    refine dT (i := 1) (listed' := #[I_,I_,O_,O_,O_,O_,O_,O_,O_]) rfl hP11 hK11 (fun wS hS => (r_move (v := .int _ _) rfl)) ?_
    obtain ⟨y19, hy19, h⟩ := bindE h
    obtain ⟨ad19, had19, hk19⟩ := ix_known (e := e_batonref26_Ticket) (Rd.cs hR0p) e_batonref26_Ticket_len (by decide) hy19
    have hx19 : Value.slice aP0 mP0 cP0 = .slice (some ad19) mP0 cP0 := by rw [had19]
    refine dT (i := 2) (listed' := #[I_,I_,I_,O_,O_,O_,O_,O_,O_]) rfl hP11 hK11 (fun wS hS => (ra_idx (xs := x0) (i := xl2_t5) Try.underlying30 I90 (by exact hx19) (by rfl) hm0p hy19)) ?_
    refine dT (i := 3) (listed' := #[I_,I_,I_,I_,O_,O_,O_,O_,O_]) rfl hP11 hK11 (fun wS hS => (r_loadN (cs := [(.int .i64 y19.No), (.int .i64 y19.For), (.int .i64 y19.Until)]) Try.underlying90 rfl I90 rfl rfl (hk19 _ (hR0p.kept hS)))) ?_
    refine dT (i := 4) (listed' := #[I_,I_,I_,I_,I_,O_,O_,O_,O_]) rfl hP11 hK11 (fun wS hS => (r_move (v := .slice _ _ _) rfl)) ?_
    refine dT (i := 5) (listed' := #[I_,I_,I_,I_,I_,I_,O_,O_,O_]) rfl hP11 hK11 (fun wS hS => (r_move (v := .int _ _) rfl)) ?_
    obtain ⟨y23, hy23, h⟩ := bindE h
    obtain ⟨ad23, had23, hk23⟩ := ix_known (e := e_batonref26_Ticket) (Rd.cs hR1p) e_batonref26_Ticket_len (by decide) hy23
    have hx23 : Value.slice aP1 mP1 cP1 = .slice (some ad23) mP1 cP1 := by rw [had23]
    refine dT (i := 6) (listed' := #[I_,I_,I_,I_,I_,I_,I_,O_,O_]) rfl hP11 hK11 (fun wS hS => (ra_idx (xs := x1) (i := xl2_t5) Try.underlying30 I90 (by exact hx23) (by rfl) hm1p hy23)) ?_
    refine dT (i := 7) (listed' := #[I_,I_,I_,I_,I_,I_,I_,I_,O_]) rfl hP11 hK11 (fun wS hS => (r_loadN (cs := [(.int .i64 y23.No), (.int .i64 y23.For), (.int .i64 y23.Until)]) Try.underlying90 rfl I90 rfl rfl (hk23 _ (hR1p.kept hS)))) ?_
    refine dT (i := 8) (listed' := #[I_,I_,I_,I_,I_,I_,I_,I_,I_]) rfl hP11 hK11 (fun wS hS => (r_stNe (u := y19) (v := y23) (by kernel_rfl) (fun D => eq_90 D _ _ _) rfl rfl)) ?_
    refine d_done (by kernel_rfl) ?_
    refine c_next ?_
    rcases Bool.eq_false_or_eq_true ((decide (y19 = y23))) with hb12 | hb12
    · replace h := iT hb12 h
      refine c_condF (congrArg Value.bool (nnt hb12)) ?_
      refine c_skip ?_
      refine x_norm ?_
      refine c_next ?_
      refine c_reg ?_
      refine sv (r_move (v := .int _ _) rfl) ?_
      refine sv (r_addI (a := xl2_t5) (b := 1) rfl rfl) ?_
      refine sv (r_assign (v := .int _ _) rfl) ?_
      refine s_nil ?_
      refine l_end (m' := kl9) (Nat.lt_succ_self _) ?_
      rw [← Option.some.inj h] at hyl9
      exact ⟨(w64 (xl2_t5 + 1)), hyl9, rfl, rfl, rfl, hO10, (e9.trans e10)⟩
    replace h := iF (nt hb12) h
    refine c_condT (congrArg Value.bool (nnf hb12)) ?_
    refine c_seq ?_
    refine c_reg ?_
    refine sv (r_assign (v := .bool false) rfl) ?_
    refine s_nil ?_
    refine c_next ?_
    refine c_ret ?_
    refine r_block ?_
    refine r_then ?_
    refine r_then ?_
    refine r_block ?_
    refine r_then ?_
    replace h := crossE h hyl9
    refine e_1 (v := .bool false) Try.results33 rfl ?_
    rw [← Option.some.inj h]
    exact ⟨rfl, hO10, (e1.trans (e9.trans e10))⟩
  replace h := iF (Int.not_lt.2 h14) h
  refine s_nil ?_
  refine c_next ?_
  refine c_condF rfl ?_
  refine c_exit ?_
  refine x_then ?_
  refine x_then ?_
  refine x_same ?_
  replace h := crossE h hyl9
  refine c_next ?_
  refine c_seq ?_
  refine c_reg ?_
  refine sv (r_assign (v := .bool true) rfl) ?_
  refine s_nil ?_
  refine c_next ?_
  refine c_ret ?_
  refine e_1 (v := .bool true) Try.results33 rfl ?_
  rw [← Option.some.inj h]
  exact ⟨rfl, hO9, (e1.trans e9)⟩
theorem c_batonref27_Same (x0 : T_batonref27_State) (x1 : T_batonref27_State) (aP0 : Option Addr) (mP0 cP0 : Nat) (aP1 : Option Addr) (mP1 cP1 : Nat) (aP2 : Option Addr) (mP2 cP2 : Nat) (aP3 : Option Addr) (mP3 cP3 : Nat)  (r : Bool) (h : F_batonref27_Same x0 x1 = some r) (w : World) (L : Hp) (hm0p : x0.Roster.length = mP0) (hc0p : mP0 ≤ cP0) (hR0p : Rd w L aP0 (fl e_batonref25_Device x0.Roster)) (hm1p : x0.Tickets.length = mP1) (hc1p : mP1 ≤ cP1) (hR1p : Rd w L aP1 (fl e_batonref26_Ticket x0.Tickets)) (hm2p : x1.Roster.length = mP2) (hc2p : mP2 ≤ cP2) (hR2p : Rd w L aP2 (fl e_batonref25_Device x1.Roster)) (hm3p : x1.Tickets.length = mP3) (hc3p : mP3 ≤ cP3) (hR3p : Rd w L aP3 (fl e_batonref26_Ticket x1.Tickets)) (hO : Own w L) :
    Calls Try.prog 12 #[(.agg #[(.int .i64 x0.Epoch), (.int .i64 x0.Owner), (.int .i64 x0.Next), (.slice aP0 mP0 cP0), (.slice aP1 mP1 cP1)]), (.agg #[(.int .i64 x1.Epoch), (.int .i64 x1.Owner), (.int .i64 x1.Next), (.slice aP2 mP2 cP2), (.slice aP3 mP3 cP3)])] w fun en w' => en = .returned (.bool r) ∧ Own w' L ∧ Ext w L w' L := by
  unfold F_batonref27_Same at h
  refine enter (n := 38) [(.agg #[(.int .i64 x0.Epoch), (.int .i64 x0.Owner), (.int .i64 x0.Next), (.slice aP0 mP0 cP0), (.slice aP1 mP1 cP1)]), (.agg #[(.int .i64 x1.Epoch), (.int .i64 x1.Owner), (.int .i64 x1.Next), (.slice aP2 mP2 cP2), (.slice aP3 mP3 cP3)])] Try.func12 rfl rfl (Nat.le_of_ble_eq_true rfl) ?_
  refine c_seq ?_
  refine c_reg ?_
  refine s_box (v := (.agg #[(.int .i64 x0.Epoch), (.int .i64 x0.Owner), (.int .i64 x0.Next), (.slice aP0 mP0 cP0), (.slice aP1 mP1 cP1)])) rfl hO ?_
  intro b2 w3 hz2 hl2 hO3 e3
  have hO4 : Own w3 ((b2, .cells #[(.int .i64 x0.Epoch), (.int .i64 x0.Owner), (.int .i64 x0.Next), (.slice aP0 mP0 cP0), (.slice aP1 mP1 cP1)] 32 (0, 0)) :: L) := hO3
  refine s_box (v := (.agg #[(.int .i64 x1.Epoch), (.int .i64 x1.Owner), (.int .i64 x1.Next), (.slice aP2 mP2 cP2), (.slice aP3 mP3 cP3)])) rfl hO4 ?_
  intro b3 w6 hz3 hl3 hO6 e6
  have hO7 : Own w6 ((b3, .cells #[(.int .i64 x1.Epoch), (.int .i64 x1.Owner), (.int .i64 x1.Next), (.slice aP2 mP2 cP2), (.slice aP3 mP3 cP3)] 32 (0, 0)) :: ((b2, .cells #[(.int .i64 x0.Epoch), (.int .i64 x0.Owner), (.int .i64 x0.Next), (.slice aP0 mP0 cP0), (.slice aP1 mP1 cP1)] 32 (0, 0)) :: L)) := hO6
  refine sv (r_assign (v := .bool false) rfl) ?_
  refine s_nil ?_
  refine c_next ?_
  refine c_seq ?_
  refine c_reg ?_
  refine sv (r_fieldAddr Try.underlying32 rfl I3 (by decide) rfl) ?_
  refine s_load1 (v := .int _ _) Try.underlying3 rfl rfl (cellB (hO7.get (i := 1) rfl) rfl rfl) ?_
  refine sv (r_fieldAddr Try.underlying32 rfl I3 (by decide) rfl) ?_
  refine s_load1 (v := .int _ _) Try.underlying3 rfl rfl (cellB (hO7.get (i := 0) rfl) rfl rfl) ?_
  refine c_eql rfl rfl (fun h9 => ?_) (fun h9 => ?_)
  · replace h := iT h9 h
    refine sv (r_move (v := .bool true) rfl) ?_
    refine g_do 10 (by rfl) rfl ?_
    refine sv (r_fieldAddr Try.underlying32 rfl I3 (by decide) rfl) ?_
    refine g_do 10 (by rfl) rfl ?_
    refine s_load1 (v := .int _ _) Try.underlying3 rfl rfl (cellB (hO7.get (i := 1) rfl) rfl rfl) ?_
    refine g_do 10 (by rfl) rfl ?_
    refine sv (r_fieldAddr Try.underlying32 rfl I3 (by decide) rfl) ?_
    refine g_do 10 (by rfl) rfl ?_
    refine s_load1 (v := .int _ _) Try.underlying3 rfl rfl (cellB (hO7.get (i := 0) rfl) rfl rfl) ?_
    refine g_do 10 (by rfl) rfl ?_
    refine c_eql rfl rfl (fun h15 => ?_) (fun h15 => ?_)
    · replace h := iT h15 h
      refine sv (r_pickT (v := .bool true) rfl rfl) ?_
      refine sv (r_move (v := .bool true) rfl) ?_
      refine g_do 17 (by rfl) rfl ?_
      refine sv (r_fieldAddr Try.underlying32 rfl I3 (by decide) rfl) ?_
      refine g_do 17 (by rfl) rfl ?_
      refine s_load1 (v := .int _ _) Try.underlying3 rfl rfl (cellB (hO7.get (i := 1) rfl) rfl rfl) ?_
      refine g_do 17 (by rfl) rfl ?_
      refine sv (r_fieldAddr Try.underlying32 rfl I3 (by decide) rfl) ?_
      refine g_do 17 (by rfl) rfl ?_
      refine s_load1 (v := .int _ _) Try.underlying3 rfl rfl (cellB (hO7.get (i := 0) rfl) rfl rfl) ?_
      refine g_do 17 (by rfl) rfl ?_
      refine c_eql rfl rfl (fun h22 => ?_) (fun h22 => ?_)
      · replace h := iT h22 h
        refine sv (r_pickT (v := .bool true) rfl rfl) ?_
        refine sv (r_move (v := .bool true) rfl) ?_
        refine g_do 24 (by rfl) rfl ?_
        refine sv (r_fieldAddr Try.underlying32 rfl I29 (by decide) rfl) ?_
        refine g_do 24 (by rfl) rfl ?_
        refine s_load1 (v := .slice _ _ _) Try.underlying29 rfl rfl (cellB (hO7.get (i := 1) rfl) rfl rfl) ?_
        refine g_do 24 (by rfl) rfl ?_
        refine sv (r_fieldAddr Try.underlying32 rfl I29 (by decide) rfl) ?_
        refine g_do 24 (by rfl) rfl ?_
        refine s_load1 (v := .slice _ _ _) Try.underlying29 rfl rfl (cellB (hO7.get (i := 0) rfl) rfl rfl) ?_
        refine g_do 24 (by rfl) rfl ?_
        obtain ⟨y29, hy29, h⟩ := bindE h
        refine s_call cf32 rfl (c_batonref25_Same x0.Roster x1.Roster aP0 mP0 cP0 aP2 mP2 cP2 _ hy29 _ _ hm0p hc0p (hR0p.ext (e3.trans e6)) hm2p hc2p (hR2p.ext (e3.trans e6)) hO7) ?_
        rintro er29 w9 ⟨rfl, hO9, e9⟩
        refine ⟨_, rfl, ?_⟩
        refine sv (r_pickT (v := .bool _) rfl rfl) ?_
        refine sv (r_move (v := .bool _) rfl) ?_
        rcases Bool.eq_false_or_eq_true (y29) with hb10 | hb10
        · replace h := iT hb10 h
          refine g_do 31 (by rfl) (congrArg Value.bool hb10) ?_
          refine sv (r_fieldAddr Try.underlying32 rfl I30 (by decide) rfl) ?_
          refine g_do 31 (by rfl) (congrArg Value.bool hb10) ?_
          refine s_load1 (v := .slice _ _ _) Try.underlying30 rfl rfl (cellB (hO9.get (i := 1) rfl) rfl rfl) ?_
          refine g_do 31 (by rfl) (congrArg Value.bool hb10) ?_
          refine sv (r_fieldAddr Try.underlying32 rfl I30 (by decide) rfl) ?_
          refine g_do 31 (by rfl) (congrArg Value.bool hb10) ?_
          refine s_load1 (v := .slice _ _ _) Try.underlying30 rfl rfl (cellB (hO9.get (i := 0) rfl) rfl rfl) ?_
          refine g_do 31 (by rfl) (congrArg Value.bool hb10) ?_
          obtain ⟨y36, hy36, h⟩ := bindE h
          refine s_call cf33 rfl (c_batonref26_Same x0.Tickets x1.Tickets aP1 mP1 cP1 aP3 mP3 cP3 _ hy36 _ _ hm1p hc1p (hR1p.ext (e3.trans (e6.trans e9))) hm3p hc3p (hR3p.ext (e3.trans (e6.trans e9))) hO9) ?_
          rintro er36 w11 ⟨rfl, hO11, e11⟩
          refine ⟨_, rfl, ?_⟩
          refine sv (r_pickT (v := .bool _) (by exact (congrArg Value.bool hb10)) rfl) ?_
          refine sv (r_assign (v := .bool _) rfl) ?_
          refine s_nil ?_
          refine c_next ?_
          refine c_ret ?_
          refine e_1 (v := .bool _) Try.results12 rfl ?_
          obtain ⟨hO12, e12⟩ := hO11.drop1
          obtain ⟨hO13, e13⟩ := hO12.drop1
          rw [← Option.some.inj h]
          exact ⟨rfl, hO13, (e3.trans (e6.trans (e9.trans (e11.trans (e12.trans e13)))))⟩
        replace h := iF (nt hb10) h
        refine g_skip 31 (by rfl) (congrArg Value.bool hb10) (by rfl) ?_
        refine g_skip 31 (by rfl) (congrArg Value.bool hb10) (by rfl) ?_
        refine g_skip 31 (by rfl) (congrArg Value.bool hb10) (by rfl) ?_
        refine g_skip 31 (by rfl) (congrArg Value.bool hb10) (by rfl) ?_
        refine g_skip 31 (by rfl) (congrArg Value.bool hb10) (by rfl) ?_
        refine sv (r_pickF (v := .bool false) (by exact (congrArg Value.bool hb10)) rfl) ?_
        refine sv (r_assign (v := .bool false) rfl) ?_
        refine s_nil ?_
        refine c_next ?_
        refine c_ret ?_
        refine e_1 (v := .bool false) Try.results12 rfl ?_
        obtain ⟨hO14, e14⟩ := hO9.drop1
        obtain ⟨hO15, e15⟩ := hO14.drop1
        rw [← Option.some.inj h]
        exact ⟨rfl, hO15, (e3.trans (e6.trans (e9.trans (e14.trans e15))))⟩
      replace h := iF h22 h
      refine sv (r_pickT (v := .bool false) rfl rfl) ?_
      refine sv (r_move (v := .bool false) rfl) ?_
      refine g_skip 24 (by rfl) rfl (by rfl) ?_
      refine g_skip 24 (by rfl) rfl (by rfl) ?_
      refine g_skip 24 (by rfl) rfl (by rfl) ?_
      refine g_skip 24 (by rfl) rfl (by rfl) ?_
      refine g_skip 24 (by rfl) rfl (by rfl) ?_
      refine sv (r_pickF (v := .bool false) rfl rfl) ?_
      refine sv (r_move (v := .bool false) rfl) ?_
      refine g_skip 31 (by rfl) rfl (by rfl) ?_
      refine g_skip 31 (by rfl) rfl (by rfl) ?_
      refine g_skip 31 (by rfl) rfl (by rfl) ?_
      refine g_skip 31 (by rfl) rfl (by rfl) ?_
      refine g_skip 31 (by rfl) rfl (by rfl) ?_
      refine sv (r_pickF (v := .bool false) rfl rfl) ?_
      refine sv (r_assign (v := .bool false) rfl) ?_
      refine s_nil ?_
      refine c_next ?_
      refine c_ret ?_
      refine e_1 (v := .bool false) Try.results12 rfl ?_
      obtain ⟨hO16, e16⟩ := hO7.drop1
      obtain ⟨hO17, e17⟩ := hO16.drop1
      rw [← Option.some.inj h]
      exact ⟨rfl, hO17, (e3.trans (e6.trans (e16.trans e17)))⟩
    replace h := iF h15 h
    refine sv (r_pickT (v := .bool false) rfl rfl) ?_
    refine sv (r_move (v := .bool false) rfl) ?_
    refine g_skip 17 (by rfl) rfl (by rfl) ?_
    refine g_skip 17 (by rfl) rfl (by rfl) ?_
    refine g_skip 17 (by rfl) rfl (by rfl) ?_
    refine g_skip 17 (by rfl) rfl (by rfl) ?_
    refine g_skip 17 (by rfl) rfl (by rfl) ?_
    refine sv (r_pickF (v := .bool false) rfl rfl) ?_
    refine sv (r_move (v := .bool false) rfl) ?_
    refine g_skip 24 (by rfl) rfl (by rfl) ?_
    refine g_skip 24 (by rfl) rfl (by rfl) ?_
    refine g_skip 24 (by rfl) rfl (by rfl) ?_
    refine g_skip 24 (by rfl) rfl (by rfl) ?_
    refine g_skip 24 (by rfl) rfl (by rfl) ?_
    refine sv (r_pickF (v := .bool false) rfl rfl) ?_
    refine sv (r_move (v := .bool false) rfl) ?_
    refine g_skip 31 (by rfl) rfl (by rfl) ?_
    refine g_skip 31 (by rfl) rfl (by rfl) ?_
    refine g_skip 31 (by rfl) rfl (by rfl) ?_
    refine g_skip 31 (by rfl) rfl (by rfl) ?_
    refine g_skip 31 (by rfl) rfl (by rfl) ?_
    refine sv (r_pickF (v := .bool false) rfl rfl) ?_
    refine sv (r_assign (v := .bool false) rfl) ?_
    refine s_nil ?_
    refine c_next ?_
    refine c_ret ?_
    refine e_1 (v := .bool false) Try.results12 rfl ?_
    obtain ⟨hO18, e18⟩ := hO7.drop1
    obtain ⟨hO19, e19⟩ := hO18.drop1
    rw [← Option.some.inj h]
    exact ⟨rfl, hO19, (e3.trans (e6.trans (e18.trans e19)))⟩
  replace h := iF h9 h
  refine sv (r_move (v := .bool false) rfl) ?_
  refine g_skip 10 (by rfl) rfl (by rfl) ?_
  refine g_skip 10 (by rfl) rfl (by rfl) ?_
  refine g_skip 10 (by rfl) rfl (by rfl) ?_
  refine g_skip 10 (by rfl) rfl (by rfl) ?_
  refine g_skip 10 (by rfl) rfl (by rfl) ?_
  refine sv (r_pickF (v := .bool false) rfl rfl) ?_
  refine sv (r_move (v := .bool false) rfl) ?_
  refine g_skip 17 (by rfl) rfl (by rfl) ?_
  refine g_skip 17 (by rfl) rfl (by rfl) ?_
  refine g_skip 17 (by rfl) rfl (by rfl) ?_
  refine g_skip 17 (by rfl) rfl (by rfl) ?_
  refine g_skip 17 (by rfl) rfl (by rfl) ?_
  refine sv (r_pickF (v := .bool false) rfl rfl) ?_
  refine sv (r_move (v := .bool false) rfl) ?_
  refine g_skip 24 (by rfl) rfl (by rfl) ?_
  refine g_skip 24 (by rfl) rfl (by rfl) ?_
  refine g_skip 24 (by rfl) rfl (by rfl) ?_
  refine g_skip 24 (by rfl) rfl (by rfl) ?_
  refine g_skip 24 (by rfl) rfl (by rfl) ?_
  refine sv (r_pickF (v := .bool false) rfl rfl) ?_
  refine sv (r_move (v := .bool false) rfl) ?_
  refine g_skip 31 (by rfl) rfl (by rfl) ?_
  refine g_skip 31 (by rfl) rfl (by rfl) ?_
  refine g_skip 31 (by rfl) rfl (by rfl) ?_
  refine g_skip 31 (by rfl) rfl (by rfl) ?_
  refine g_skip 31 (by rfl) rfl (by rfl) ?_
  refine sv (r_pickF (v := .bool false) rfl rfl) ?_
  refine sv (r_assign (v := .bool false) rfl) ?_
  refine s_nil ?_
  refine c_next ?_
  refine c_ret ?_
  refine e_1 (v := .bool false) Try.results12 rfl ?_
  obtain ⟨hO20, e20⟩ := hO7.drop1
  obtain ⟨hO21, e21⟩ := hO20.drop1
  rw [← Option.some.inj h]
  exact ⟨rfl, hO21, (e3.trans (e6.trans (e20.trans e21)))⟩
theorem c_slices_Equal_roster_Device (x0 : (List T_roster_Device)) (x1 : (List T_roster_Device)) (aP0 : Option Addr) (mP0 cP0 : Nat) (aP1 : Option Addr) (mP1 cP1 : Nat)  (r : Bool) (h : F_slices_Equal_roster_Device x0 x1 = some r) (w : World) (L : Hp) (hm0p : x0.length = mP0) (hc0p : mP0 ≤ cP0) (hR0p : Rd w L aP0 (fl e_roster_Device x0)) (hm1p : x1.length = mP1) (hc1p : mP1 ≤ cP1) (hR1p : Rd w L aP1 (fl e_roster_Device x1)) (hO : Own w L) :
    Calls Try.prog 36 #[(.slice aP0 mP0 cP0), (.slice aP1 mP1 cP1)] w fun en w' => en = .returned (.bool r) ∧ Own w' L ∧ Ext w L w' L := by
  unfold F_slices_Equal_roster_Device at h
  refine enter (n := 26) [(.slice aP0 mP0 cP0), (.slice aP1 mP1 cP1)] Try.func36 rfl rfl (Nat.le_of_ble_eq_true rfl) ?_
  refine c_seq ?_
  refine c_reg ?_
  refine sv (r_assign (v := .bool false) rfl) ?_
  refine s_nil ?_
  refine c_next ?_
  refine c_seq ?_
  obtain ⟨oc1, G1, hG1, h, hr1⟩ := bindG h
  refine c_cutL hO (fun Lc f0 g w' => ∃ (xc1_t10 : Bool), (G1 xc1_t10 = some r) ∧ g 0 = (.slice aP0 mP0 cP0) ∧ g 1 = (.slice aP1 mP1 cP1) ∧ g 10 = (.bool xc1_t10) ∧ Own w' L ∧ Ext w Lc w' L) ?_ ?_
  · skip
    refine c_reg ?_
    refine sv (r_move (v := .slice _ _ _) rfl) ?_
    refine sv (r_lenL (xs := x0) Try.underlying24 rfl hm0p) ?_
    refine sv (r_move (v := .slice _ _ _) rfl) ?_
    refine sv (r_lenL (xs := x1) Try.underlying24 rfl hm1p) ?_
    refine c_neq rfl rfl (fun h10 => ?_) (fun h10 => ?_)
    · replace h := iT h10 h
      refine s_nil ?_
      refine c_next ?_
      rw [← Option.some.inj h] at hr1
      exact ⟨_, rfl, true, hr1, rfl, rfl, rfl, hO, (Ext.refl _ _)⟩
    replace h := iF (Classical.not_not.2 h10) h
    refine s_nil ?_
    refine c_next ?_
    rw [← Option.some.inj h] at hr1
    exact ⟨_, rfl, false, hr1, rfl, rfl, rfl, hO, (Ext.refl _ _)⟩
  intro gg1 w1 hI1
  clear h hr1
  obtain ⟨xc1_t10, h, hsc1_0, hsc1_1, hsc1_10, hO1, e1⟩ := hI1
  replace h := hG_ hG1 h; clear hG1
  obtain ⟨qq1, rfl⟩ := fr3 hsc1_0 hsc1_1 hsc1_10
  clear hsc1_0 hsc1_1 hsc1_10
  rcases Bool.eq_false_or_eq_true (xc1_t10) with hb2 | hb2
  · replace h := iT hb2 h
    refine c_condT (congrArg Value.bool hb2) ?_
    refine c_seq ?_
    refine c_reg ?_
    refine sv (r_assign (v := .bool false) rfl) ?_
    refine s_nil ?_
    refine c_next ?_
    refine c_ret ?_
    refine r_then ?_
    refine e_1 (v := .bool false) Try.results36 rfl ?_
    rw [← Option.some.inj h]
    exact ⟨rfl, hO1, e1⟩
  replace h := iF (nt hb2) h
  refine c_condF (congrArg Value.bool hb2) ?_
  refine c_skip ?_
  refine c_next ?_
  refine c_seq ?_
  refine c_seq ?_
  refine c_reg ?_
  refine sv (r_move (v := .slice _ _ _) rfl) ?_
  refine sv (r_lenL (xs := x0) Try.underlying24 rfl hm0p) ?_
  refine sv (r_move (v := .int _ _) rfl) ?_
  refine s_nil ?_
  refine c_next ?_
  refine c_block ?_
  have hR0p := (hR0p.ext e1)
  have hR1p := (hR1p.ext e1)
  obtain ⟨kl9, hkl9⟩ := loop_iff.1 h
  clear h
  refine c_loopL hO1 (fun Lc f0 m g wl => ∃ (xl2_t13 : Int), (iterK (slices_Equal_roster_Device_l2 x0 x1) m xl2_t13 = some r) ∧ g 0 = (.slice aP0 mP0 cP0) ∧ g 1 = (.slice aP1 mP1 cP1) ∧ g 12 = (.int .i64 ((x0.length : Int))) ∧ g 13 = (.int .i64 xl2_t13) ∧ Own wl L ∧ Ext w1 Lc wl L) kl9 ?_ ?_
  · skip
    exact ⟨0, hkl9, rfl, rfl, rfl, rfl, hO1, (Ext.refl _ _)⟩
  clear hkl9
  intro mm9 gg9 w9 hI9
  obtain ⟨xl2_t13, hkl9, hsl2_0, hsl2_1, hsl2_12, hsl2_13, hO9, e9⟩ := hI9
  obtain ⟨kl9, yl9, rfl, h, hyl9⟩ := iterE hkl9
  clear hkl9
  obtain ⟨qq9, rfl⟩ := fr4 hsl2_0 hsl2_1 hsl2_12 hsl2_13
  clear hsl2_0 hsl2_1 hsl2_12 hsl2_13
  refine c_seq ?_
  refine c_reg ?_
  refine c_lss rfl rfl (fun h14 => ?_) (fun h14 => ?_)
  · replace h := iT h14 h
    refine s_nil ?_
    refine c_next ?_
    refine c_seq ?_
    refine c_condT rfl ?_
    refine c_skip ?_
    refine c_next ?_
    refine c_seq ?_
    refine c_block ?_
    refine c_seq ?_
    refine c_reg ?_
    refine sv (r_move (v := .int _ _) rfl) ?_
    refine sv (r_assign (v := .int _ _) rfl) ?_
    refine s_nil ?_
    refine c_next ?_
    refine c_seq ?_
    have hR0p := (hR0p.ext e9)
    have hR1p := (hR1p.ext e9)
    refine d_startL hO9 hO9 9 (by kernel_rfl) (pk_then (pk_block (pk_then (pk_then (pk_block (pk_then pk_body)))))) ?_
    intro hP11 wd11 hK11 hO10 e10
    refine dT (i := 0) (listed' := #[I_,O_,O_,O_,O_,O_,O_,O_,O_]) rfl hP11 hK11 (fun wS hS => (r_move (v := .slice _ _ _) rfl)) ?_
    refine dT (i := 1) (listed' := #[I_,I_,O_,O_,O_,O_,O_,O_,O_]) rfl hP11 hK11 (fun wS hS => (r_move (v := .int _ _) rfl)) ?_
    obtain ⟨y18, hy18, h⟩ := bindE h
    obtain ⟨ad18, had18, hk18⟩ := ix_known (e := e_roster_Device) (Rd.cs hR0p) e_roster_Device_len (by decide) hy18
    have hx18 : Value.slice aP0 mP0 cP0 = .slice (some ad18) mP0 cP0 := by rw [had18]
    refine dT (i := 2) (listed' := #[I_,I_,I_,O_,O_,O_,O_,O_,O_]) rfl hP11 hK11 (fun wS hS => (ra_idx (xs := x0) (i := xl2_t13) Try.underlying24 I56 (by exact hx18) (by rfl) hm0p hy18)) ?_
    refine dT (i := 3) (listed' := #[I_,I_,I_,I_,O_,O_,O_,O_,O_]) rfl hP11 hK11 (fun wS hS => (r_loadN (cs := [(.int .i64 y18.Id), (.int .i64 y18.Times), (.bool y18.Gone), (.int .i64 y18.Last)]) Try.underlying56 rfl I56 rfl rfl (hk18 _ (hR0p.kept hS)))) ?_
    refine dT (i := 4) (listed' := #[I_,I_,I_,I_,I_,O_,O_,O_,O_]) rfl hP11 hK11 (fun wS hS => (r_move (v := .slice _ _ _) rfl)) ?_
    refine dT (i := 5) (listed' := #[I_,I_,I_,I_,I_,I_,O_,O_,O_]) rfl hP11 hK11 (fun wS hS => (r_move (v := .int _ _) rfl)) ?_
    obtain ⟨y22, hy22, h⟩ := bindE h
    obtain ⟨ad22, had22, hk22⟩ := ix_known (e := e_roster_Device) (Rd.cs hR1p) e_roster_Device_len (by decide) hy22
    have hx22 : Value.slice aP1 mP1 cP1 = .slice (some ad22) mP1 cP1 := by rw [had22]
    refine dT (i := 6) (listed' := #[I_,I_,I_,I_,I_,I_,I_,O_,O_]) rfl hP11 hK11 (fun wS hS => (ra_idx (xs := x1) (i := xl2_t13) Try.underlying24 I56 (by exact hx22) (by rfl) hm1p hy22)) ?_
    refine dT (i := 7) (listed' := #[I_,I_,I_,I_,I_,I_,I_,I_,O_]) rfl hP11 hK11 (fun wS hS => (r_loadN (cs := [(.int .i64 y22.Id), (.int .i64 y22.Times), (.bool y22.Gone), (.int .i64 y22.Last)]) Try.underlying56 rfl I56 rfl rfl (hk22 _ (hR1p.kept hS)))) ?_
    refine dT (i := 8) (listed' := #[I_,I_,I_,I_,I_,I_,I_,I_,I_]) rfl hP11 hK11 (fun wS hS => (r_stNe (u := y18) (v := y22) (by kernel_rfl) (fun D => eq_56 D _ _ _) rfl rfl)) ?_
    refine d_done (by kernel_rfl) ?_
    refine c_next ?_
    rcases Bool.eq_false_or_eq_true ((decide (y18 = y22))) with hb12 | hb12
    · replace h := iT hb12 h
      refine c_condF (congrArg Value.bool (nnt hb12)) ?_
      refine c_skip ?_
      refine x_norm ?_
      refine c_next ?_
      refine c_reg ?_
      refine sv (r_addI (a := xl2_t13) (b := 1) rfl rfl) ?_
      refine sv (r_move (v := .int _ _) rfl) ?_
      refine s_nil ?_
      refine l_end (m' := kl9) (Nat.lt_succ_self _) ?_
      rw [← Option.some.inj h] at hyl9
      exact ⟨(w64 (xl2_t13 + 1)), hyl9, rfl, rfl, rfl, rfl, hO10, (e9.trans e10)⟩
    replace h := iF (nt hb12) h
    refine c_condT (congrArg Value.bool (nnf hb12)) ?_
    refine c_seq ?_
    refine c_reg ?_
    refine sv (r_assign (v := .bool false) rfl) ?_
    refine s_nil ?_
    refine c_next ?_
    refine c_ret ?_
    refine r_block ?_
    refine r_then ?_
    refine r_then ?_
    refine r_block ?_
    refine r_then ?_
    replace h := crossE h hyl9
    refine e_1 (v := .bool false) Try.results36 rfl ?_
    rw [← Option.some.inj h]
    exact ⟨rfl, hO10, (e1.trans (e9.trans e10))⟩
  replace h := iF (Int.not_lt.2 h14) h
  refine s_nil ?_
  refine c_next ?_
  refine c_seq ?_
  refine c_condF rfl ?_
  refine c_exit ?_
  refine x_then ?_
  refine x_then ?_
  refine x_same ?_
  replace h := crossE h hyl9
  refine c_next ?_
  refine c_seq ?_
  refine c_reg ?_
  refine sv (r_assign (v := .bool true) rfl) ?_
  refine s_nil ?_
  refine c_next ?_
  refine c_ret ?_
  refine e_1 (v := .bool true) Try.results36 rfl ?_
  rw [← Option.some.inj h]
  exact ⟨rfl, hO9, (e1.trans e9)⟩
end Go.Proofs.Ytbigpfenlmfhgaa

