/- A part of the proof that the row of the law holds of the program as translated: lemmas and contracts of its functions. -/
import Derived.Test.YtbigpfenlmfhgaaProg
import Derived.Test.YtbigpfenlmfhgaaAvI
import Derived.Test.YtbigpfenlmfhgaaX28p
import Derived.Test.YtbigpfenlmfhgaaX27s1
set_option linter.unusedVariables false
set_option linter.unusedSimpArgs false
set_option maxRecDepth 10000
namespace Go.Proofs.Ytbigpfenlmfhgaa
open Go.GV Go.AV Go.RowKit
attribute [local irreducible] wpList
theorem I5 : TI Try.prog 5 (.int .u8 0) 1 1 := by unfold TI; kernel_rfl
theorem I33 : TI Try.prog 33 (.int .i64 0) 1 8 := by unfold TI; kernel_rfl
theorem I75 : TI Try.prog 75 (.slice none 0 0) 1 24 := by unfold TI; kernel_rfl
theorem I112 : TI Try.prog 112 (.agg #[(.slice none 0 0), (.int .i64 0)]) 2 32 := by unfold TI; kernel_rfl
theorem pl112 : PL Try.prog 112 #[(0, 1), (1, 1)] := ⟨_, Try.underlying112, fun w => by kernel_rfl⟩
theorem cf18 : ∀ (args : Array Value) (w : World), (callFunc 18 args).run Try.prog w = .ok (.enter 18 args) w := cf_of Try.func18 (by kernel_rfl) rfl
theorem cf19 : ∀ (args : Array Value) (w : World), (callFunc 19 args).run Try.prog w = .ok (.enter 19 args) w := cf_of Try.func19 (by kernel_rfl) rfl
theorem cf41 : ∀ (args : Array Value) (w : World), (callFunc 41 args).run Try.prog w = .ok (.enter 41 args) w := cf_of Try.func41 (by kernel_rfl) rfl
theorem cf42 : ∀ (args : Array Value) (w : World), (callFunc 42 args).run Try.prog w = .ok (.enter 42 args) w := cf_of Try.func42 (by kernel_rfl) rfl
theorem cf55 : ∀ (args : Array Value) (w : World), (callFunc 55 args).run Try.prog w = .ok (.enter 55 args) w := cf_of Try.func55 (by kernel_rfl) rfl
theorem cf56 : ∀ (args : Array Value) (w : World), (callFunc 56 args).run Try.prog w = .ok (.enter 56 args) w := cf_of Try.func56 (by kernel_rfl) rfl
theorem cf57 : ∀ (args : Array Value) (w : World), (callFunc 57 args).run Try.prog w = .ok (.enter 57 args) w := cf_of Try.func57 (by kernel_rfl) rfl
theorem cf58 : ∀ (args : Array Value) (w : World), (callFunc 58 args).run Try.prog w = .ok (.enter 58 args) w := cf_of Try.func58 (by kernel_rfl) rfl
theorem cf59 : ∀ (args : Array Value) (w : World), (callFunc 59 args).run Try.prog w = .ok (.enter 59 args) w := cf_of Try.func59 (by kernel_rfl) rfl
theorem cf73 : ∀ (args : Array Value) (w : World), (callFunc 73 args).run Try.prog w = .ok (.enter 73 args) w := cf_of Try.func73 (by kernel_rfl) rfl
theorem cf74 : ∀ (args : Array Value) (w : World), (callFunc 74 args).run Try.prog w = .ok (.enter 74 args) w := cf_of Try.func74 (by kernel_rfl) rfl
theorem cf75 : ∀ (args : Array Value) (w : World), (callFunc 75 args).run Try.prog w = .ok (.enter 75 args) w := cf_of Try.func75 (by kernel_rfl) rfl
theorem eq_37 (D : Nat) (w : World) (x y : T_claim_Op) : (Op.equalIn (D + 9) 37 (.agg #[.int .i64 x.Kind, .int .i64 x.Device, .int .i64 x.Request, .int .i64 x.Ticket, .int .i64 x.For, .int .i64 x.Until, .int .i64 x.Now]) (.agg #[.int .i64 y.Kind, .int .i64 y.Device, .int .i64 y.Request, .int .i64 y.Ticket, .int .i64 y.For, .int .i64 y.Until, .int .i64 y.Now])).run Try.prog w = .ok (decide (x = y)) w := by
  have h : (Op.equalIn (D + 8 + 1) 37 (.agg #[.int .i64 x.Kind, .int .i64 x.Device, .int .i64 x.Request, .int .i64 x.Ticket, .int .i64 x.For, .int .i64 x.Until, .int .i64 x.Now]) (.agg #[.int .i64 y.Kind, .int .i64 y.Device, .int .i64 y.Request, .int .i64 y.Ticket, .int .i64 y.For, .int .i64 y.Until, .int .i64 y.Now])).run Try.prog w = .ok (decide (x.Kind = y.Kind) && (decide (x.Device = y.Device) && (decide (x.Request = y.Request) && (decide (x.Ticket = y.Ticket) && (decide (x.For = y.For) && (decide (x.Until = y.Until) && (decide (x.Now = y.Now) && true))))))) w := by
    refine eqA_of Try.underlying37 (by kernel_rfl) ?_
    refine eqf_cons (by rfl) (part1 Try.underlying3 rfl rfl) (part1 Try.underlying3 rfl rfl) (eqi Try.underlying3) ?_
    refine eqf_cons (by rfl) (part1 Try.underlying3 rfl rfl) (part1 Try.underlying3 rfl rfl) (eqi Try.underlying3) ?_
    refine eqf_cons (by rfl) (part1 Try.underlying3 rfl rfl) (part1 Try.underlying3 rfl rfl) (eqi Try.underlying3) ?_
    refine eqf_cons (by rfl) (part1 Try.underlying3 rfl rfl) (part1 Try.underlying3 rfl rfl) (eqi Try.underlying3) ?_
    refine eqf_cons (by rfl) (part1 Try.underlying3 rfl rfl) (part1 Try.underlying3 rfl rfl) (eqi Try.underlying3) ?_
    refine eqf_cons (by rfl) (part1 Try.underlying3 rfl rfl) (part1 Try.underlying3 rfl rfl) (eqi Try.underlying3) ?_
    refine eqf_cons (by rfl) (part1 Try.underlying3 rfl rfl) (part1 Try.underlying3 rfl rfl) (eqi Try.underlying3) ?_
    exact eqf_nil
  rw [show D + 9 = D + 8 + 1 from rfl, h]
  congr 1
  cases x
  cases y
  simp [Bool.decide_and]
theorem c_opcode_count (x0 : Int) (x1 : Int)   (r : Bool) (h : F_opcode_count x0 x1 = some r) (w : World) (L : Hp)  (hO : Own w L) :
    Calls Try.prog 73 #[(.int .i64 x0), (.int .i64 x1)] w fun en w' => en = .returned (.bool r) ∧ Own w' L ∧ Ext w L w' L := by
  unfold F_opcode_count at h
  refine enter (n := 12) [(.int .i64 x0), (.int .i64 x1)] Try.func73 rfl rfl (Nat.le_of_ble_eq_true rfl) ?_
  refine c_seq ?_
  refine c_reg ?_
  refine sv (r_assign (v := .bool false) rfl) ?_
  refine s_nil ?_
  refine c_next ?_
  refine c_seq ?_
  refine c_reg ?_
  refine sv (r_move (v := .int _ _) rfl) ?_
  refine sv (r_move (v := .int _ _) rfl) ?_
  refine c_geq rfl rfl (fun h7 => ?_) (fun h7 => ?_)
  · replace h := iT h7 h
    refine sv (r_move (v := .bool true) rfl) ?_
    refine g_do 8 (by rfl) rfl ?_
    refine sv (r_move (v := .int _ _) rfl) ?_
    refine g_do 8 (by rfl) rfl ?_
    refine c_leq rfl rfl (fun h10 => ?_) (fun h10 => ?_)
    · replace h := iT h10 h
      refine sv (r_pickT (v := .bool true) rfl rfl) ?_
      refine sv (r_assign (v := .bool true) rfl) ?_
      refine s_nil ?_
      refine c_next ?_
      refine c_ret ?_
      refine e_1 (v := .bool true) Try.results73 rfl ?_
      rw [← Option.some.inj h]
      exact ⟨rfl, hO, (Ext.refl _ _)⟩
    replace h := iF (Int.not_le.2 h10) h
    refine sv (r_pickT (v := .bool false) rfl rfl) ?_
    refine sv (r_assign (v := .bool false) rfl) ?_
    refine s_nil ?_
    refine c_next ?_
    refine c_ret ?_
    refine e_1 (v := .bool false) Try.results73 rfl ?_
    rw [← Option.some.inj h]
    exact ⟨rfl, hO, (Ext.refl _ _)⟩
  replace h := iF (Int.not_le.2 h7) h
  refine sv (r_move (v := .bool false) rfl) ?_
  refine g_skip 8 (by rfl) rfl (by rfl) ?_
  refine g_skip 8 (by rfl) rfl (by rfl) ?_
  refine sv (r_pickF (v := .bool false) rfl rfl) ?_
  refine sv (r_assign (v := .bool false) rfl) ?_
  refine s_nil ?_
  refine c_next ?_
  refine c_ret ?_
  refine e_1 (v := .bool false) Try.results73 rfl ?_
  rw [← Option.some.inj h]
  exact ⟨rfl, hO, (Ext.refl _ _)⟩
theorem c_opcode_Own (x0 : T_claim_Op)   (r : T_claim_Op) (h : F_opcode_Own x0 = some r) (w : World) (L : Hp)  (hO : Own w L) :
    Calls Try.prog 19 #[(.agg #[(.int .i64 x0.Kind), (.int .i64 x0.Device), (.int .i64 x0.Request), (.int .i64 x0.Ticket), (.int .i64 x0.For), (.int .i64 x0.Until), (.int .i64 x0.Now)])] w fun en w' => en = .returned (.agg #[(.int .i64 r.Kind), (.int .i64 r.Device), (.int .i64 r.Request), (.int .i64 r.Ticket), (.int .i64 r.For), (.int .i64 r.Until), (.int .i64 r.Now)]) ∧ Own w' L ∧ Ext w L w' L := by
  unfold F_opcode_Own at h
  refine enter (n := 55) [(.agg #[(.int .i64 x0.Kind), (.int .i64 x0.Device), (.int .i64 x0.Request), (.int .i64 x0.Ticket), (.int .i64 x0.For), (.int .i64 x0.Until), (.int .i64 x0.Now)])] Try.func19 rfl rfl (Nat.le_of_ble_eq_true rfl) ?_
  refine c_seq ?_
  refine c_reg ?_
  refine s_box (v := (.agg #[(.int .i64 x0.Kind), (.int .i64 x0.Device), (.int .i64 x0.Request), (.int .i64 x0.Ticket), (.int .i64 x0.For), (.int .i64 x0.Until), (.int .i64 x0.Now)])) rfl hO ?_
  intro b1 w3 hz1 hl1 hO3 e3
  have hO4 : Own w3 ((b1, .cells #[(.int .i64 x0.Kind), (.int .i64 x0.Device), (.int .i64 x0.Request), (.int .i64 x0.Ticket), (.int .i64 x0.For), (.int .i64 x0.Until), (.int .i64 x0.Now)] 37 (0, 0)) :: L) := hO3
  refine s_alloc I37 hO4 ?_
  intro b2 w6 hz2 hl2 hO6 e6
  have hO7 : Own w6 ((b2, .cells #[(.int .i64 0), (.int .i64 0), (.int .i64 0), (.int .i64 0), (.int .i64 0), (.int .i64 0), (.int .i64 0)] 37 (0, 0)) :: ((b1, .cells #[(.int .i64 x0.Kind), (.int .i64 x0.Device), (.int .i64 x0.Request), (.int .i64 x0.Ticket), (.int .i64 x0.For), (.int .i64 x0.Until), (.int .i64 x0.Now)] 37 (0, 0)) :: L)) := hO6
  refine s_nil ?_
  refine c_next ?_
  refine c_seq ?_
  refine c_reg ?_
  refine sv (r_fieldAddr Try.underlying37 rfl I3 (by decide) rfl) ?_
  refine s_load1 (v := .int _ _) Try.underlying3 rfl rfl (cellB (hO7.get (i := 1) rfl) rfl rfl) ?_
  refine sv (r_build (vs := [(0, (.int .i64 x0.Kind))]) (cells := #[(.int .i64 x0.Kind), (.int .i64 0), (.int .i64 0), (.int .i64 0), (.int .i64 0), (.int .i64 0), (.int .i64 0)]) I37 pl37 rfl (by kernel_rfl)) ?_
  refine s_alloc I37 hO7 ?_
  intro b3 w11 hz3 hl3 hO11 e11
  have hO12 : Own w11 ((b3, .cells #[(.int .i64 0), (.int .i64 0), (.int .i64 0), (.int .i64 0), (.int .i64 0), (.int .i64 0), (.int .i64 0)] 37 (0, 0)) :: ((b2, .cells #[(.int .i64 0), (.int .i64 0), (.int .i64 0), (.int .i64 0), (.int .i64 0), (.int .i64 0), (.int .i64 0)] 37 (0, 0)) :: ((b1, .cells #[(.int .i64 x0.Kind), (.int .i64 x0.Device), (.int .i64 x0.Request), (.int .i64 x0.Ticket), (.int .i64 x0.For), (.int .i64 x0.Until), (.int .i64 x0.Now)] 37 (0, 0)) :: L))) := hO11
  refine s_storeN (vs := #[(.int .i64 x0.Kind), (.int .i64 0), (.int .i64 0), (.int .i64 0), (.int .i64 0), (.int .i64 0), (.int .i64 0)]) I37 rfl rfl rfl hO12 (i := 0) rfl (Nat.le_of_ble_eq_true rfl) (List.all_eq_true.1 rfl) ?_
  intro w14 hO14 e14
  have hO15 : Own w14 ((b3, .cells #[(.int .i64 x0.Kind), (.int .i64 0), (.int .i64 0), (.int .i64 0), (.int .i64 0), (.int .i64 0), (.int .i64 0)] 37 (0, 0)) :: ((b2, .cells #[(.int .i64 0), (.int .i64 0), (.int .i64 0), (.int .i64 0), (.int .i64 0), (.int .i64 0), (.int .i64 0)] 37 (0, 0)) :: ((b1, .cells #[(.int .i64 x0.Kind), (.int .i64 x0.Device), (.int .i64 x0.Request), (.int .i64 x0.Ticket), (.int .i64 x0.For), (.int .i64 x0.Until), (.int .i64 x0.Now)] 37 (0, 0)) :: L))) := hO14
  refine s_nil ?_
  refine c_next ?_
  refine c_seq ?_
  refine c_seq ?_
  refine c_reg ?_
  refine sv (r_fieldAddr Try.underlying37 rfl I3 (by decide) rfl) ?_
  refine s_load1 (v := .int _ _) Try.underlying3 rfl rfl (cellB (hO15.get (i := 2) rfl) rfl rfl) ?_
  refine s_nil ?_
  refine c_next ?_
  refine c_block ?_
  obtain ⟨oc17, G17, hG17, h, hr17⟩ := bindG h
  refine c_cutL hO15 (fun Lc f0 g w' => ∃ (xc1_t9 : Bool), (G17 xc1_t9 = some r) ∧ g 1 = (.pointer (some ⟨b1, 0, none⟩)) ∧ g 2 = (.pointer (some ⟨b2, 0, none⟩)) ∧ g 3 = (.pointer (some ⟨b3, 0, none⟩)) ∧ g 8 = (.int .i64 x0.Kind) ∧ g 9 = (.bool xc1_t9) ∧ Own w' ((b1, .cells #[(.int .i64 x0.Kind), (.int .i64 x0.Device), (.int .i64 x0.Request), (.int .i64 x0.Ticket), (.int .i64 x0.For), (.int .i64 x0.Until), (.int .i64 x0.Now)] 37 (0, 0)) :: ((b2, .cells #[(.int .i64 0), (.int .i64 0), (.int .i64 0), (.int .i64 0), (.int .i64 0), (.int .i64 0), (.int .i64 0)] 37 (0, 0)) :: ((b3, .cells #[(.int .i64 x0.Kind), (.int .i64 0), (.int .i64 0), (.int .i64 0), (.int .i64 0), (.int .i64 0), (.int .i64 0)] 37 (0, 0)) :: L))) ∧ Ext w14 Lc w' ((b1, .cells #[(.int .i64 x0.Kind), (.int .i64 x0.Device), (.int .i64 x0.Request), (.int .i64 x0.Ticket), (.int .i64 x0.For), (.int .i64 x0.Until), (.int .i64 x0.Now)] 37 (0, 0)) :: ((b2, .cells #[(.int .i64 0), (.int .i64 0), (.int .i64 0), (.int .i64 0), (.int .i64 0), (.int .i64 0), (.int .i64 0)] 37 (0, 0)) :: ((b3, .cells #[(.int .i64 x0.Kind), (.int .i64 0), (.int .i64 0), (.int .i64 0), (.int .i64 0), (.int .i64 0), (.int .i64 0)] 37 (0, 0)) :: L)))) ?_ ?_
  · skip
    refine c_seq ?_
    refine c_reg ?_
    refine c_eql rfl rfl (fun h10 => ?_) (fun h10 => ?_)
    · replace h := iT h10 h
      refine sv (r_assign (v := .bool true) rfl) ?_
      refine s_nil ?_
      refine c_next ?_
      refine c_condT rfl ?_
      refine c_skip ?_
      refine c_next ?_
      rw [← Option.some.inj h] at hr17
      obtain ⟨hO18, e18⟩ := hO15.permE (pmbC pmb0)
      obtain ⟨hO19, e19⟩ := hO18.permE (pmbC (pmbC pmb0))
      exact ⟨_, rfl, true, hr17, rfl, rfl, rfl, rfl, rfl, hO19, (e18.trans e19)⟩
    replace h := iF h10 h
    refine sv (r_assign (v := .bool false) rfl) ?_
    refine s_nil ?_
    refine c_next ?_
    refine c_condF rfl ?_
    refine c_reg ?_
    refine c_eql rfl rfl (fun h11 => ?_) (fun h11 => ?_)
    · replace h := iT h11 h
      refine sv (r_assign (v := .bool true) rfl) ?_
      refine s_nil ?_
      refine c_next ?_
      rw [← Option.some.inj h] at hr17
      obtain ⟨hO20, e20⟩ := hO15.permE (pmbC pmb0)
      obtain ⟨hO21, e21⟩ := hO20.permE (pmbC (pmbC pmb0))
      exact ⟨_, rfl, true, hr17, rfl, rfl, rfl, rfl, rfl, hO21, (e20.trans e21)⟩
    replace h := iF h11 h
    refine sv (r_assign (v := .bool false) rfl) ?_
    refine s_nil ?_
    refine c_next ?_
    rw [← Option.some.inj h] at hr17
    obtain ⟨hO22, e22⟩ := hO15.permE (pmbC pmb0)
    obtain ⟨hO23, e23⟩ := hO22.permE (pmbC (pmbC pmb0))
    exact ⟨_, rfl, false, hr17, rfl, rfl, rfl, rfl, rfl, hO23, (e22.trans e23)⟩
  intro gg17 w17 hI17
  clear h hr17
  obtain ⟨xc1_t9, h, hsc1_1, hsc1_2, hsc1_3, hsc1_8, hsc1_9, hO17, e17⟩ := hI17
  replace h := hG_ hG17 h; clear hG17
  obtain ⟨qq17, rfl⟩ := fr5 hsc1_1 hsc1_2 hsc1_3 hsc1_8 hsc1_9
  clear hsc1_1 hsc1_2 hsc1_3 hsc1_8 hsc1_9
  rcases Bool.eq_false_or_eq_true (xc1_t9) with hb24 | hb24
  · replace h := iT hb24 h
    refine c_condT (congrArg Value.bool hb24) ?_
    refine c_reg ?_
    refine sv (r_fieldAddr Try.underlying37 rfl I3 (by decide) rfl) ?_
    refine s_load1 (v := .int _ _) Try.underlying3 rfl rfl (cellB (hO17.get (i := 0) rfl) rfl rfl) ?_
    refine sv (r_fieldAddr Try.underlying37 rfl I3 (by decide) rfl) ?_
    refine s_store1 (v := (.int .i64 x0.Device)) (o := 1) I3 rfl rfl rfl hO17 (i := 2) rfl rfl rfl ?_
    intro w25 hO25 e25
    have hO26 : Own w25 ((b1, .cells #[(.int .i64 x0.Kind), (.int .i64 x0.Device), (.int .i64 x0.Request), (.int .i64 x0.Ticket), (.int .i64 x0.For), (.int .i64 x0.Until), (.int .i64 x0.Now)] 37 (0, 0)) :: ((b2, .cells #[(.int .i64 0), (.int .i64 0), (.int .i64 0), (.int .i64 0), (.int .i64 0), (.int .i64 0), (.int .i64 0)] 37 (0, 0)) :: ((b3, .cells #[(.int .i64 x0.Kind), (.int .i64 x0.Device), (.int .i64 0), (.int .i64 0), (.int .i64 0), (.int .i64 0), (.int .i64 0)] 37 (0, 0)) :: L))) := hO25
    refine s_nil ?_
    refine x_norm ?_
    refine c_next ?_
    refine c_seq ?_
    refine c_reg ?_
    refine s_loadAll Try.underlying37 rfl I37 rfl (hO26.get (i := 2) rfl) rfl rfl ?_
    refine s_storeN (vs := #[(.int .i64 x0.Kind), (.int .i64 x0.Device), (.int .i64 0), (.int .i64 0), (.int .i64 0), (.int .i64 0), (.int .i64 0)]) I37 rfl rfl rfl hO26 (i := 1) rfl (Nat.le_of_ble_eq_true rfl) (List.all_eq_true.1 rfl) ?_
    intro w28 hO28 e28
    have hO29 : Own w28 ((b1, .cells #[(.int .i64 x0.Kind), (.int .i64 x0.Device), (.int .i64 x0.Request), (.int .i64 x0.Ticket), (.int .i64 x0.For), (.int .i64 x0.Until), (.int .i64 x0.Now)] 37 (0, 0)) :: ((b2, .cells #[(.int .i64 x0.Kind), (.int .i64 x0.Device), (.int .i64 0), (.int .i64 0), (.int .i64 0), (.int .i64 0), (.int .i64 0)] 37 (0, 0)) :: ((b3, .cells #[(.int .i64 x0.Kind), (.int .i64 x0.Device), (.int .i64 0), (.int .i64 0), (.int .i64 0), (.int .i64 0), (.int .i64 0)] 37 (0, 0)) :: L))) := hO28
    refine s_nil ?_
    refine c_next ?_
    refine c_ret ?_
    refine e_r1 Try.results19 (rv_agg Try.underlying37 rfl I37 rfl (hO29.get (i := 1) rfl) rfl rfl) ?_
    obtain ⟨hO31, e31⟩ := hO29.drop1
    obtain ⟨hO32, e32⟩ := hO31.drop1
    obtain ⟨hO33, e33⟩ := hO32.drop1
    rw [← Option.some.inj h]
    exact ⟨rfl, hO33, (e3.trans (e6.trans (e11.trans (e14.trans (e17.trans (e25.trans (e28.trans (e31.trans (e32.trans e33)))))))))⟩
  replace h := iF (nt hb24) h
  refine c_condF (congrArg Value.bool hb24) ?_
  obtain ⟨oc34, G34, hG34, h, hr34⟩ := bindG h
  refine c_cutL hO17 (fun Lc f0 g w' => ∃ (xc2_t15 : Bool), (G34 xc2_t15 = some r) ∧ g 1 = (.pointer (some ⟨b1, 0, none⟩)) ∧ g 2 = (.pointer (some ⟨b2, 0, none⟩)) ∧ g 3 = (.pointer (some ⟨b3, 0, none⟩)) ∧ g 8 = (.int .i64 x0.Kind) ∧ g 15 = (.bool xc2_t15) ∧ Own w' ((b1, .cells #[(.int .i64 x0.Kind), (.int .i64 x0.Device), (.int .i64 x0.Request), (.int .i64 x0.Ticket), (.int .i64 x0.For), (.int .i64 x0.Until), (.int .i64 x0.Now)] 37 (0, 0)) :: ((b2, .cells #[(.int .i64 0), (.int .i64 0), (.int .i64 0), (.int .i64 0), (.int .i64 0), (.int .i64 0), (.int .i64 0)] 37 (0, 0)) :: ((b3, .cells #[(.int .i64 x0.Kind), (.int .i64 0), (.int .i64 0), (.int .i64 0), (.int .i64 0), (.int .i64 0), (.int .i64 0)] 37 (0, 0)) :: L))) ∧ Ext w17 Lc w' ((b1, .cells #[(.int .i64 x0.Kind), (.int .i64 x0.Device), (.int .i64 x0.Request), (.int .i64 x0.Ticket), (.int .i64 x0.For), (.int .i64 x0.Until), (.int .i64 x0.Now)] 37 (0, 0)) :: ((b2, .cells #[(.int .i64 0), (.int .i64 0), (.int .i64 0), (.int .i64 0), (.int .i64 0), (.int .i64 0), (.int .i64 0)] 37 (0, 0)) :: ((b3, .cells #[(.int .i64 x0.Kind), (.int .i64 0), (.int .i64 0), (.int .i64 0), (.int .i64 0), (.int .i64 0), (.int .i64 0)] 37 (0, 0)) :: L)))) ?_ ?_
  · skip
    refine c_reg ?_
    refine c_eql rfl rfl (fun h16 => ?_) (fun h16 => ?_)
    · replace h := iT h16 h
      refine sv (r_assign (v := .bool true) rfl) ?_
      refine s_nil ?_
      refine c_next ?_
      rw [← Option.some.inj h] at hr34
      exact ⟨_, rfl, true, hr34, rfl, rfl, rfl, rfl, rfl, hO17, (Ext.refl _ _)⟩
    replace h := iF h16 h
    refine sv (r_assign (v := .bool false) rfl) ?_
    refine s_nil ?_
    refine c_next ?_
    rw [← Option.some.inj h] at hr34
    exact ⟨_, rfl, false, hr34, rfl, rfl, rfl, rfl, rfl, hO17, (Ext.refl _ _)⟩
  intro gg34 w34 hI34
  clear h hr34
  obtain ⟨xc2_t15, h, hsc2_1, hsc2_2, hsc2_3, hsc2_8, hsc2_15, hO34, e34⟩ := hI34
  replace h := hG_ hG34 h; clear hG34
  obtain ⟨qq34, rfl⟩ := fr5 hsc2_1 hsc2_2 hsc2_3 hsc2_8 hsc2_15
  clear hsc2_1 hsc2_2 hsc2_3 hsc2_8 hsc2_15
  rcases Bool.eq_false_or_eq_true (xc2_t15) with hb35 | hb35
  · replace h := iT hb35 h
    refine c_condT (congrArg Value.bool hb35) ?_
    refine d_startL hO34 ((hO34.perm (pmbC pmb0)).t.perm (pmbC pmb0)).t 18 (by kernel_rfl) (pk_block (pk_then pk_body)) ?_
    intro hP37 wd37 hK37 hO36 e36
    refine dT (i := 0) (listed' := #[I_,O_,O_,O_,O_,O_,O_,O_,O_,O_,O_,O_,O_,O_,O_,O_,O_,O_,O_,O_]) rfl hP37 hK37 (fun wS hS => (r_fieldAddr Try.underlying37 rfl I3 (by decide) rfl)) ?_
    refine dT (i := 1) (listed' := #[I_,I_,O_,O_,O_,O_,O_,O_,O_,O_,O_,O_,O_,O_,O_,O_,O_,O_,O_,O_]) rfl hP37 hK37 (fun wS hS => (r_load1 (v := .int _ _) Try.underlying3 rfl rfl (cellB (hS.own.get (i := 0) rfl) rfl rfl))) ?_
    refine dT (i := 2) (listed' := #[I_,I_,I_,O_,O_,O_,O_,O_,O_,O_,O_,O_,O_,O_,O_,O_,O_,O_,O_,O_]) rfl hP37 hK37 (fun wS hS => (r_fieldAddr Try.underlying37 rfl I3 (by decide) rfl)) ?_
    refine dT (i := 3) (listed' := #[I_,I_,I_,I_,O_,O_,O_,O_,O_,O_,O_,O_,O_,O_,O_,O_,O_,O_,O_,O_]) rfl hP37 hK37 (fun wS hS => (r_load1 (v := .int _ _) Try.underlying3 rfl rfl (cellB (hS.own.get (i := 0) rfl) rfl rfl))) ?_
    refine dT (i := 4) (listed' := #[I_,I_,I_,I_,I_,O_,O_,O_,O_,O_,O_,O_,O_,O_,O_,O_,O_,O_,O_,O_]) rfl hP37 hK37 (fun wS hS => (r_fieldAddr Try.underlying37 rfl I3 (by decide) rfl)) ?_
    refine dT (i := 5) (listed' := #[I_,I_,I_,I_,I_,I_,O_,O_,O_,O_,O_,O_,O_,O_,O_,O_,O_,O_,O_,O_]) rfl hP37 hK37 (fun wS hS => (r_load1 (v := .int _ _) Try.underlying3 rfl rfl (cellB (hS.own.get (i := 0) rfl) rfl rfl))) ?_
    refine dT (i := 6) (listed' := #[I_,I_,I_,I_,I_,I_,I_,O_,O_,O_,O_,O_,O_,O_,O_,O_,O_,O_,O_,O_]) rfl hP37 hK37 (fun wS hS => (r_fieldAddr Try.underlying37 rfl I3 (by decide) rfl)) ?_
    refine dT (i := 7) (listed' := #[I_,I_,I_,I_,I_,I_,I_,I_,O_,O_,O_,O_,O_,O_,O_,O_,O_,O_,O_,O_]) rfl hP37 hK37 (fun wS hS => (r_load1 (v := .int _ _) Try.underlying3 rfl rfl (cellB (hS.own.get (i := 0) rfl) rfl rfl))) ?_
    refine dT (i := 8) (listed' := #[I_,I_,I_,I_,I_,I_,I_,I_,I_,O_,O_,O_,O_,O_,O_,O_,O_,O_,O_,O_]) rfl hP37 hK37 (fun wS hS => (r_fieldAddr Try.underlying37 rfl I3 (by decide) rfl)) ?_
    refine dT (i := 9) (listed' := #[I_,I_,I_,I_,I_,I_,I_,I_,I_,I_,O_,O_,O_,O_,O_,O_,O_,O_,O_,O_]) rfl hP37 hK37 (fun wS hS => (r_load1 (v := .int _ _) Try.underlying3 rfl rfl (cellB (hS.own.get (i := 0) rfl) rfl rfl))) ?_
    refine dT (i := 10) (listed' := #[I_,I_,I_,I_,I_,I_,I_,I_,I_,I_,I_,O_,O_,O_,O_,O_,O_,O_,O_,O_]) rfl hP37 hK37 (fun wS hS => (r_fieldAddr Try.underlying37 rfl I3 (by decide) rfl)) ?_
    refine d1 (i := 11) (listed' := #[I_,I_,I_,I_,I_,I_,I_,I_,I_,I_,I_,I_,O_,O_,O_,O_,O_,O_,O_,O_]) ?_
    refine s_store1 (v := (.int .i64 x0.Device)) (o := 1) I3 rfl rfl rfl hO36 (i := 2) rfl rfl rfl ?_
    intro w38 hO38 e38
    have hO39 : Own w38 ((b1, .cells #[(.int .i64 x0.Kind), (.int .i64 x0.Device), (.int .i64 x0.Request), (.int .i64 x0.Ticket), (.int .i64 x0.For), (.int .i64 x0.Until), (.int .i64 x0.Now)] 37 (0, 0)) :: ((b2, .cells #[(.int .i64 0), (.int .i64 0), (.int .i64 0), (.int .i64 0), (.int .i64 0), (.int .i64 0), (.int .i64 0)] 37 (0, 0)) :: ((b3, .cells #[(.int .i64 x0.Kind), (.int .i64 x0.Device), (.int .i64 0), (.int .i64 0), (.int .i64 0), (.int .i64 0), (.int .i64 0)] 37 (0, 0)) :: L))) := hO38
    have hK41 : Kept w34 _ _ w38 := Kept.to (e36.trans e38) ((hO39.perm (pmbC pmb0)).t.perm (pmbC pmb0)).t
    refine d_back hK41 ?_
    refine dT (i := 12) (listed' := #[I_,I_,I_,I_,I_,I_,I_,I_,I_,I_,I_,I_,I_,O_,O_,O_,O_,O_,O_,O_]) rfl hP37 hK41 (fun wS hS => (r_fieldAddr Try.underlying37 rfl I3 (by decide) rfl)) ?_
    refine d1 (i := 13) (listed' := #[I_,I_,I_,I_,I_,I_,I_,I_,I_,I_,I_,I_,I_,I_,O_,O_,O_,O_,O_,O_]) ?_
    refine s_store1 (v := (.int .i64 x0.Request)) (o := 2) I3 rfl rfl rfl hO39 (i := 2) rfl rfl rfl ?_
    intro w42 hO42 e42
    have hO43 : Own w42 ((b1, .cells #[(.int .i64 x0.Kind), (.int .i64 x0.Device), (.int .i64 x0.Request), (.int .i64 x0.Ticket), (.int .i64 x0.For), (.int .i64 x0.Until), (.int .i64 x0.Now)] 37 (0, 0)) :: ((b2, .cells #[(.int .i64 0), (.int .i64 0), (.int .i64 0), (.int .i64 0), (.int .i64 0), (.int .i64 0), (.int .i64 0)] 37 (0, 0)) :: ((b3, .cells #[(.int .i64 x0.Kind), (.int .i64 x0.Device), (.int .i64 x0.Request), (.int .i64 0), (.int .i64 0), (.int .i64 0), (.int .i64 0)] 37 (0, 0)) :: L))) := hO42
    have hK45 : Kept w34 _ _ w42 := Kept.to (e36.trans (e38.trans e42)) ((hO43.perm (pmbC pmb0)).t.perm (pmbC pmb0)).t
    refine d_back hK45 ?_
    refine dT (i := 14) (listed' := #[I_,I_,I_,I_,I_,I_,I_,I_,I_,I_,I_,I_,I_,I_,I_,O_,O_,O_,O_,O_]) rfl hP37 hK45 (fun wS hS => (r_fieldAddr Try.underlying37 rfl I3 (by decide) rfl)) ?_
    refine d1 (i := 15) (listed' := #[I_,I_,I_,I_,I_,I_,I_,I_,I_,I_,I_,I_,I_,I_,I_,I_,O_,O_,O_,O_]) ?_
    refine s_store1 (v := (.int .i64 x0.For)) (o := 4) I3 rfl rfl rfl hO43 (i := 2) rfl rfl rfl ?_
    intro w46 hO46 e46
    have hO47 : Own w46 ((b1, .cells #[(.int .i64 x0.Kind), (.int .i64 x0.Device), (.int .i64 x0.Request), (.int .i64 x0.Ticket), (.int .i64 x0.For), (.int .i64 x0.Until), (.int .i64 x0.Now)] 37 (0, 0)) :: ((b2, .cells #[(.int .i64 0), (.int .i64 0), (.int .i64 0), (.int .i64 0), (.int .i64 0), (.int .i64 0), (.int .i64 0)] 37 (0, 0)) :: ((b3, .cells #[(.int .i64 x0.Kind), (.int .i64 x0.Device), (.int .i64 x0.Request), (.int .i64 0), (.int .i64 x0.For), (.int .i64 0), (.int .i64 0)] 37 (0, 0)) :: L))) := hO46
    have hK49 : Kept w34 _ _ w46 := Kept.to (e36.trans (e38.trans (e42.trans e46))) ((hO47.perm (pmbC pmb0)).t.perm (pmbC pmb0)).t
    refine d_back hK49 ?_
    refine dT (i := 16) (listed' := #[I_,I_,I_,I_,I_,I_,I_,I_,I_,I_,I_,I_,I_,I_,I_,I_,I_,O_,O_,O_]) rfl hP37 hK49 (fun wS hS => (r_fieldAddr Try.underlying37 rfl I3 (by decide) rfl)) ?_
    refine d1 (i := 17) (listed' := #[I_,I_,I_,I_,I_,I_,I_,I_,I_,I_,I_,I_,I_,I_,I_,I_,I_,I_,O_,O_]) ?_
    refine s_store1 (v := (.int .i64 x0.Until)) (o := 5) I3 rfl rfl rfl hO47 (i := 2) rfl rfl rfl ?_
    intro w50 hO50 e50
    have hO51 : Own w50 ((b1, .cells #[(.int .i64 x0.Kind), (.int .i64 x0.Device), (.int .i64 x0.Request), (.int .i64 x0.Ticket), (.int .i64 x0.For), (.int .i64 x0.Until), (.int .i64 x0.Now)] 37 (0, 0)) :: ((b2, .cells #[(.int .i64 0), (.int .i64 0), (.int .i64 0), (.int .i64 0), (.int .i64 0), (.int .i64 0), (.int .i64 0)] 37 (0, 0)) :: ((b3, .cells #[(.int .i64 x0.Kind), (.int .i64 x0.Device), (.int .i64 x0.Request), (.int .i64 0), (.int .i64 x0.For), (.int .i64 x0.Until), (.int .i64 0)] 37 (0, 0)) :: L))) := hO50
    have hK53 : Kept w34 _ _ w50 := Kept.to (e36.trans (e38.trans (e42.trans (e46.trans e50)))) ((hO51.perm (pmbC pmb0)).t.perm (pmbC pmb0)).t
    refine d_back hK53 ?_
    refine d1 (i := 18) (listed' := #[I_,I_,I_,I_,I_,I_,I_,I_,I_,I_,I_,I_,I_,I_,I_,I_,I_,I_,I_,O_]) ?_
    refine sv (r_fieldAddr Try.underlying37 rfl I3 (by decide) rfl) ?_
    refine d_tail rfl ?_
    refine d1 (i := 19) (listed' := #[I_,I_,I_,I_,I_,I_,I_,I_,I_,I_,I_,I_,I_,I_,I_,I_,I_,I_,I_,I_]) ?_
    refine s_store1 (v := (.int .i64 x0.Now)) (o := 6) I3 rfl rfl rfl hO51 (i := 2) rfl rfl rfl ?_
    intro w54 hO54 e54
    have hO55 : Own w54 ((b1, .cells #[(.int .i64 x0.Kind), (.int .i64 x0.Device), (.int .i64 x0.Request), (.int .i64 x0.Ticket), (.int .i64 x0.For), (.int .i64 x0.Until), (.int .i64 x0.Now)] 37 (0, 0)) :: ((b2, .cells #[(.int .i64 0), (.int .i64 0), (.int .i64 0), (.int .i64 0), (.int .i64 0), (.int .i64 0), (.int .i64 0)] 37 (0, 0)) :: ((b3, .cells #[(.int .i64 x0.Kind), (.int .i64 x0.Device), (.int .i64 x0.Request), (.int .i64 0), (.int .i64 x0.For), (.int .i64 x0.Until), (.int .i64 x0.Now)] 37 (0, 0)) :: L))) := hO54
    refine d_tail rfl ?_
    refine d_done (by kernel_rfl) ?_
    refine x_norm ?_
    refine c_next ?_
    refine c_seq ?_
    refine c_reg ?_
    refine s_loadAll Try.underlying37 rfl I37 rfl (hO55.get (i := 2) rfl) rfl rfl ?_
    refine s_storeN (vs := #[(.int .i64 x0.Kind), (.int .i64 x0.Device), (.int .i64 x0.Request), (.int .i64 0), (.int .i64 x0.For), (.int .i64 x0.Until), (.int .i64 x0.Now)]) I37 rfl rfl rfl hO55 (i := 1) rfl (Nat.le_of_ble_eq_true rfl) (List.all_eq_true.1 rfl) ?_
    intro w57 hO57 e57
    have hO58 : Own w57 ((b1, .cells #[(.int .i64 x0.Kind), (.int .i64 x0.Device), (.int .i64 x0.Request), (.int .i64 x0.Ticket), (.int .i64 x0.For), (.int .i64 x0.Until), (.int .i64 x0.Now)] 37 (0, 0)) :: ((b2, .cells #[(.int .i64 x0.Kind), (.int .i64 x0.Device), (.int .i64 x0.Request), (.int .i64 0), (.int .i64 x0.For), (.int .i64 x0.Until), (.int .i64 x0.Now)] 37 (0, 0)) :: ((b3, .cells #[(.int .i64 x0.Kind), (.int .i64 x0.Device), (.int .i64 x0.Request), (.int .i64 0), (.int .i64 x0.For), (.int .i64 x0.Until), (.int .i64 x0.Now)] 37 (0, 0)) :: L))) := hO57
    refine s_nil ?_
    refine c_next ?_
    refine c_ret ?_
    refine e_r1 Try.results19 (rv_agg Try.underlying37 rfl I37 rfl (hO58.get (i := 1) rfl) rfl rfl) ?_
    obtain ⟨hO60, e60⟩ := hO58.drop1
    obtain ⟨hO61, e61⟩ := hO60.drop1
    obtain ⟨hO62, e62⟩ := hO61.drop1
    rw [← Option.some.inj h]
    exact ⟨rfl, hO62, (e3.trans (e6.trans (e11.trans (e14.trans (e17.trans (e34.trans (e36.trans (e38.trans (e42.trans (e46.trans (e50.trans (e54.trans (e57.trans (e60.trans (e61.trans e62)))))))))))))))⟩
  replace h := iF (nt hb35) h
  refine c_condF (congrArg Value.bool hb35) ?_
  obtain ⟨oc63, G63, hG63, h, hr63⟩ := bindG h
  refine c_cutL hO34 (fun Lc f0 g w' => ∃ (xc3_t32 : Bool), (G63 xc3_t32 = some r) ∧ g 1 = (.pointer (some ⟨b1, 0, none⟩)) ∧ g 2 = (.pointer (some ⟨b2, 0, none⟩)) ∧ g 3 = (.pointer (some ⟨b3, 0, none⟩)) ∧ g 8 = (.int .i64 x0.Kind) ∧ g 32 = (.bool xc3_t32) ∧ Own w' ((b1, .cells #[(.int .i64 x0.Kind), (.int .i64 x0.Device), (.int .i64 x0.Request), (.int .i64 x0.Ticket), (.int .i64 x0.For), (.int .i64 x0.Until), (.int .i64 x0.Now)] 37 (0, 0)) :: ((b2, .cells #[(.int .i64 0), (.int .i64 0), (.int .i64 0), (.int .i64 0), (.int .i64 0), (.int .i64 0), (.int .i64 0)] 37 (0, 0)) :: ((b3, .cells #[(.int .i64 x0.Kind), (.int .i64 0), (.int .i64 0), (.int .i64 0), (.int .i64 0), (.int .i64 0), (.int .i64 0)] 37 (0, 0)) :: L))) ∧ Ext w34 Lc w' ((b1, .cells #[(.int .i64 x0.Kind), (.int .i64 x0.Device), (.int .i64 x0.Request), (.int .i64 x0.Ticket), (.int .i64 x0.For), (.int .i64 x0.Until), (.int .i64 x0.Now)] 37 (0, 0)) :: ((b2, .cells #[(.int .i64 0), (.int .i64 0), (.int .i64 0), (.int .i64 0), (.int .i64 0), (.int .i64 0), (.int .i64 0)] 37 (0, 0)) :: ((b3, .cells #[(.int .i64 x0.Kind), (.int .i64 0), (.int .i64 0), (.int .i64 0), (.int .i64 0), (.int .i64 0), (.int .i64 0)] 37 (0, 0)) :: L)))) ?_ ?_
  · skip
    refine c_reg ?_
    refine c_eql rfl rfl (fun h33 => ?_) (fun h33 => ?_)
    · replace h := iT h33 h
      refine sv (r_assign (v := .bool true) rfl) ?_
      refine s_nil ?_
      refine c_next ?_
      rw [← Option.some.inj h] at hr63
      exact ⟨_, rfl, true, hr63, rfl, rfl, rfl, rfl, rfl, hO34, (Ext.refl _ _)⟩
    replace h := iF h33 h
    refine sv (r_assign (v := .bool false) rfl) ?_
    refine s_nil ?_
    refine c_next ?_
    rw [← Option.some.inj h] at hr63
    exact ⟨_, rfl, false, hr63, rfl, rfl, rfl, rfl, rfl, hO34, (Ext.refl _ _)⟩
  intro gg63 w63 hI63
  clear h hr63
  obtain ⟨xc3_t32, h, hsc3_1, hsc3_2, hsc3_3, hsc3_8, hsc3_32, hO63, e63⟩ := hI63
  replace h := hG_ hG63 h; clear hG63
  obtain ⟨qq63, rfl⟩ := fr5 hsc3_1 hsc3_2 hsc3_3 hsc3_8 hsc3_32
  clear hsc3_1 hsc3_2 hsc3_3 hsc3_8 hsc3_32
  rcases Bool.eq_false_or_eq_true (xc3_t32) with hb64 | hb64
  · replace h := iT hb64 h
    refine c_condT (congrArg Value.bool hb64) ?_
    refine d_startL hO63 ((hO63.perm (pmbC pmb0)).t.perm (pmbC pmb0)).t 14 (by kernel_rfl) (pk_block (pk_then pk_body)) ?_
    intro hP66 wd66 hK66 hO65 e65
    refine dT (i := 0) (listed' := #[I_,O_,O_,O_,O_,O_,O_,O_,O_,O_,O_,O_,O_,O_,O_,O_]) rfl hP66 hK66 (fun wS hS => (r_fieldAddr Try.underlying37 rfl I3 (by decide) rfl)) ?_
    refine dT (i := 1) (listed' := #[I_,I_,O_,O_,O_,O_,O_,O_,O_,O_,O_,O_,O_,O_,O_,O_]) rfl hP66 hK66 (fun wS hS => (r_load1 (v := .int _ _) Try.underlying3 rfl rfl (cellB (hS.own.get (i := 0) rfl) rfl rfl))) ?_
    refine dT (i := 2) (listed' := #[I_,I_,I_,O_,O_,O_,O_,O_,O_,O_,O_,O_,O_,O_,O_,O_]) rfl hP66 hK66 (fun wS hS => (r_fieldAddr Try.underlying37 rfl I3 (by decide) rfl)) ?_
    refine dT (i := 3) (listed' := #[I_,I_,I_,I_,O_,O_,O_,O_,O_,O_,O_,O_,O_,O_,O_,O_]) rfl hP66 hK66 (fun wS hS => (r_load1 (v := .int _ _) Try.underlying3 rfl rfl (cellB (hS.own.get (i := 0) rfl) rfl rfl))) ?_
    refine dT (i := 4) (listed' := #[I_,I_,I_,I_,I_,O_,O_,O_,O_,O_,O_,O_,O_,O_,O_,O_]) rfl hP66 hK66 (fun wS hS => (r_fieldAddr Try.underlying37 rfl I3 (by decide) rfl)) ?_
    refine dT (i := 5) (listed' := #[I_,I_,I_,I_,I_,I_,O_,O_,O_,O_,O_,O_,O_,O_,O_,O_]) rfl hP66 hK66 (fun wS hS => (r_load1 (v := .int _ _) Try.underlying3 rfl rfl (cellB (hS.own.get (i := 0) rfl) rfl rfl))) ?_
    refine dT (i := 6) (listed' := #[I_,I_,I_,I_,I_,I_,I_,O_,O_,O_,O_,O_,O_,O_,O_,O_]) rfl hP66 hK66 (fun wS hS => (r_fieldAddr Try.underlying37 rfl I3 (by decide) rfl)) ?_
    refine dT (i := 7) (listed' := #[I_,I_,I_,I_,I_,I_,I_,I_,O_,O_,O_,O_,O_,O_,O_,O_]) rfl hP66 hK66 (fun wS hS => (r_load1 (v := .int _ _) Try.underlying3 rfl rfl (cellB (hS.own.get (i := 0) rfl) rfl rfl))) ?_
    refine dT (i := 8) (listed' := #[I_,I_,I_,I_,I_,I_,I_,I_,I_,O_,O_,O_,O_,O_,O_,O_]) rfl hP66 hK66 (fun wS hS => (r_fieldAddr Try.underlying37 rfl I3 (by decide) rfl)) ?_
    refine d1 (i := 9) (listed' := #[I_,I_,I_,I_,I_,I_,I_,I_,I_,I_,O_,O_,O_,O_,O_,O_]) ?_
    refine s_store1 (v := (.int .i64 x0.Device)) (o := 1) I3 rfl rfl rfl hO65 (i := 2) rfl rfl rfl ?_
    intro w67 hO67 e67
    have hO68 : Own w67 ((b1, .cells #[(.int .i64 x0.Kind), (.int .i64 x0.Device), (.int .i64 x0.Request), (.int .i64 x0.Ticket), (.int .i64 x0.For), (.int .i64 x0.Until), (.int .i64 x0.Now)] 37 (0, 0)) :: ((b2, .cells #[(.int .i64 0), (.int .i64 0), (.int .i64 0), (.int .i64 0), (.int .i64 0), (.int .i64 0), (.int .i64 0)] 37 (0, 0)) :: ((b3, .cells #[(.int .i64 x0.Kind), (.int .i64 x0.Device), (.int .i64 0), (.int .i64 0), (.int .i64 0), (.int .i64 0), (.int .i64 0)] 37 (0, 0)) :: L))) := hO67
    have hK70 : Kept w63 _ _ w67 := Kept.to (e65.trans e67) ((hO68.perm (pmbC pmb0)).t.perm (pmbC pmb0)).t
    refine d_back hK70 ?_
    refine dT (i := 10) (listed' := #[I_,I_,I_,I_,I_,I_,I_,I_,I_,I_,I_,O_,O_,O_,O_,O_]) rfl hP66 hK70 (fun wS hS => (r_fieldAddr Try.underlying37 rfl I3 (by decide) rfl)) ?_
    refine d1 (i := 11) (listed' := #[I_,I_,I_,I_,I_,I_,I_,I_,I_,I_,I_,I_,O_,O_,O_,O_]) ?_
    refine s_store1 (v := (.int .i64 x0.Request)) (o := 2) I3 rfl rfl rfl hO68 (i := 2) rfl rfl rfl ?_
    intro w71 hO71 e71
    have hO72 : Own w71 ((b1, .cells #[(.int .i64 x0.Kind), (.int .i64 x0.Device), (.int .i64 x0.Request), (.int .i64 x0.Ticket), (.int .i64 x0.For), (.int .i64 x0.Until), (.int .i64 x0.Now)] 37 (0, 0)) :: ((b2, .cells #[(.int .i64 0), (.int .i64 0), (.int .i64 0), (.int .i64 0), (.int .i64 0), (.int .i64 0), (.int .i64 0)] 37 (0, 0)) :: ((b3, .cells #[(.int .i64 x0.Kind), (.int .i64 x0.Device), (.int .i64 x0.Request), (.int .i64 0), (.int .i64 0), (.int .i64 0), (.int .i64 0)] 37 (0, 0)) :: L))) := hO71
    have hK74 : Kept w63 _ _ w71 := Kept.to (e65.trans (e67.trans e71)) ((hO72.perm (pmbC pmb0)).t.perm (pmbC pmb0)).t
    refine d_back hK74 ?_
    refine dT (i := 12) (listed' := #[I_,I_,I_,I_,I_,I_,I_,I_,I_,I_,I_,I_,I_,O_,O_,O_]) rfl hP66 hK74 (fun wS hS => (r_fieldAddr Try.underlying37 rfl I3 (by decide) rfl)) ?_
    refine d1 (i := 13) (listed' := #[I_,I_,I_,I_,I_,I_,I_,I_,I_,I_,I_,I_,I_,I_,O_,O_]) ?_
    refine s_store1 (v := (.int .i64 x0.Ticket)) (o := 3) I3 rfl rfl rfl hO72 (i := 2) rfl rfl rfl ?_
    intro w75 hO75 e75
    have hO76 : Own w75 ((b1, .cells #[(.int .i64 x0.Kind), (.int .i64 x0.Device), (.int .i64 x0.Request), (.int .i64 x0.Ticket), (.int .i64 x0.For), (.int .i64 x0.Until), (.int .i64 x0.Now)] 37 (0, 0)) :: ((b2, .cells #[(.int .i64 0), (.int .i64 0), (.int .i64 0), (.int .i64 0), (.int .i64 0), (.int .i64 0), (.int .i64 0)] 37 (0, 0)) :: ((b3, .cells #[(.int .i64 x0.Kind), (.int .i64 x0.Device), (.int .i64 x0.Request), (.int .i64 x0.Ticket), (.int .i64 0), (.int .i64 0), (.int .i64 0)] 37 (0, 0)) :: L))) := hO75
    have hK78 : Kept w63 _ _ w75 := Kept.to (e65.trans (e67.trans (e71.trans e75))) ((hO76.perm (pmbC pmb0)).t.perm (pmbC pmb0)).t
    refine d_back hK78 ?_
    refine d1 (i := 14) (listed' := #[I_,I_,I_,I_,I_,I_,I_,I_,I_,I_,I_,I_,I_,I_,I_,O_]) ?_
    refine sv (r_fieldAddr Try.underlying37 rfl I3 (by decide) rfl) ?_
    refine d_tail rfl ?_
    refine d1 (i := 15) (listed' := #[I_,I_,I_,I_,I_,I_,I_,I_,I_,I_,I_,I_,I_,I_,I_,I_]) ?_
    refine s_store1 (v := (.int .i64 x0.Now)) (o := 6) I3 rfl rfl rfl hO76 (i := 2) rfl rfl rfl ?_
    intro w79 hO79 e79
    have hO80 : Own w79 ((b1, .cells #[(.int .i64 x0.Kind), (.int .i64 x0.Device), (.int .i64 x0.Request), (.int .i64 x0.Ticket), (.int .i64 x0.For), (.int .i64 x0.Until), (.int .i64 x0.Now)] 37 (0, 0)) :: ((b2, .cells #[(.int .i64 0), (.int .i64 0), (.int .i64 0), (.int .i64 0), (.int .i64 0), (.int .i64 0), (.int .i64 0)] 37 (0, 0)) :: ((b3, .cells #[(.int .i64 x0.Kind), (.int .i64 x0.Device), (.int .i64 x0.Request), (.int .i64 x0.Ticket), (.int .i64 0), (.int .i64 0), (.int .i64 x0.Now)] 37 (0, 0)) :: L))) := hO79
    refine d_tail rfl ?_
    refine d_done (by kernel_rfl) ?_
    refine x_norm ?_
    refine c_next ?_
    refine c_seq ?_
    refine c_reg ?_
    refine s_loadAll Try.underlying37 rfl I37 rfl (hO80.get (i := 2) rfl) rfl rfl ?_
    refine s_storeN (vs := #[(.int .i64 x0.Kind), (.int .i64 x0.Device), (.int .i64 x0.Request), (.int .i64 x0.Ticket), (.int .i64 0), (.int .i64 0), (.int .i64 x0.Now)]) I37 rfl rfl rfl hO80 (i := 1) rfl (Nat.le_of_ble_eq_true rfl) (List.all_eq_true.1 rfl) ?_
    intro w82 hO82 e82
    have hO83 : Own w82 ((b1, .cells #[(.int .i64 x0.Kind), (.int .i64 x0.Device), (.int .i64 x0.Request), (.int .i64 x0.Ticket), (.int .i64 x0.For), (.int .i64 x0.Until), (.int .i64 x0.Now)] 37 (0, 0)) :: ((b2, .cells #[(.int .i64 x0.Kind), (.int .i64 x0.Device), (.int .i64 x0.Request), (.int .i64 x0.Ticket), (.int .i64 0), (.int .i64 0), (.int .i64 x0.Now)] 37 (0, 0)) :: ((b3, .cells #[(.int .i64 x0.Kind), (.int .i64 x0.Device), (.int .i64 x0.Request), (.int .i64 x0.Ticket), (.int .i64 0), (.int .i64 0), (.int .i64 x0.Now)] 37 (0, 0)) :: L))) := hO82
    refine s_nil ?_
    refine c_next ?_
    refine c_ret ?_
    refine e_r1 Try.results19 (rv_agg Try.underlying37 rfl I37 rfl (hO83.get (i := 1) rfl) rfl rfl) ?_
    obtain ⟨hO85, e85⟩ := hO83.drop1
    obtain ⟨hO86, e86⟩ := hO85.drop1
    obtain ⟨hO87, e87⟩ := hO86.drop1
    rw [← Option.some.inj h]
    exact ⟨rfl, hO87, (e3.trans (e6.trans (e11.trans (e14.trans (e17.trans (e34.trans (e63.trans (e65.trans (e67.trans (e71.trans (e75.trans (e79.trans (e82.trans (e85.trans (e86.trans e87)))))))))))))))⟩
  replace h := iF (nt hb64) h
  refine c_condF (congrArg Value.bool hb64) ?_
  refine c_seq ?_
  refine c_reg ?_
  refine c_eql rfl rfl (fun h47 => ?_) (fun h47 => ?_)
  · replace h := iT h47 h
    refine sv (r_assign (v := .bool true) rfl) ?_
    refine s_nil ?_
    refine c_next ?_
    refine c_condT rfl ?_
    refine d_startL hO63 ((hO63.perm (pmbC pmb0)).t.perm (pmbC pmb0)).t 6 (by kernel_rfl) (pk_block (pk_then pk_body)) ?_
    intro hP89 wd89 hK89 hO88 e88
    refine dT (i := 0) (listed' := #[I_,O_,O_,O_,O_,O_,O_,O_]) rfl hP89 hK89 (fun wS hS => (r_fieldAddr Try.underlying37 rfl I3 (by decide) rfl)) ?_
    refine dT (i := 1) (listed' := #[I_,I_,O_,O_,O_,O_,O_,O_]) rfl hP89 hK89 (fun wS hS => (r_load1 (v := .int _ _) Try.underlying3 rfl rfl (cellB (hS.own.get (i := 0) rfl) rfl rfl))) ?_
    refine dT (i := 2) (listed' := #[I_,I_,I_,O_,O_,O_,O_,O_]) rfl hP89 hK89 (fun wS hS => (r_fieldAddr Try.underlying37 rfl I3 (by decide) rfl)) ?_
    refine dT (i := 3) (listed' := #[I_,I_,I_,I_,O_,O_,O_,O_]) rfl hP89 hK89 (fun wS hS => (r_load1 (v := .int _ _) Try.underlying3 rfl rfl (cellB (hS.own.get (i := 0) rfl) rfl rfl))) ?_
    refine dT (i := 4) (listed' := #[I_,I_,I_,I_,I_,O_,O_,O_]) rfl hP89 hK89 (fun wS hS => (r_fieldAddr Try.underlying37 rfl I3 (by decide) rfl)) ?_
    refine d1 (i := 5) (listed' := #[I_,I_,I_,I_,I_,I_,O_,O_]) ?_
    refine s_store1 (v := (.int .i64 x0.Device)) (o := 1) I3 rfl rfl rfl hO88 (i := 2) rfl rfl rfl ?_
    intro w90 hO90 e90
    have hO91 : Own w90 ((b1, .cells #[(.int .i64 x0.Kind), (.int .i64 x0.Device), (.int .i64 x0.Request), (.int .i64 x0.Ticket), (.int .i64 x0.For), (.int .i64 x0.Until), (.int .i64 x0.Now)] 37 (0, 0)) :: ((b2, .cells #[(.int .i64 0), (.int .i64 0), (.int .i64 0), (.int .i64 0), (.int .i64 0), (.int .i64 0), (.int .i64 0)] 37 (0, 0)) :: ((b3, .cells #[(.int .i64 x0.Kind), (.int .i64 x0.Device), (.int .i64 0), (.int .i64 0), (.int .i64 0), (.int .i64 0), (.int .i64 0)] 37 (0, 0)) :: L))) := hO90
    have hK93 : Kept w63 _ _ w90 := Kept.to (e88.trans e90) ((hO91.perm (pmbC pmb0)).t.perm (pmbC pmb0)).t
    refine d_back hK93 ?_
    refine d1 (i := 6) (listed' := #[I_,I_,I_,I_,I_,I_,I_,O_]) ?_
    refine sv (r_fieldAddr Try.underlying37 rfl I3 (by decide) rfl) ?_
    refine d_tail rfl ?_
    refine d1 (i := 7) (listed' := #[I_,I_,I_,I_,I_,I_,I_,I_]) ?_
    refine s_store1 (v := (.int .i64 x0.Request)) (o := 2) I3 rfl rfl rfl hO91 (i := 2) rfl rfl rfl ?_
    intro w94 hO94 e94
    have hO95 : Own w94 ((b1, .cells #[(.int .i64 x0.Kind), (.int .i64 x0.Device), (.int .i64 x0.Request), (.int .i64 x0.Ticket), (.int .i64 x0.For), (.int .i64 x0.Until), (.int .i64 x0.Now)] 37 (0, 0)) :: ((b2, .cells #[(.int .i64 0), (.int .i64 0), (.int .i64 0), (.int .i64 0), (.int .i64 0), (.int .i64 0), (.int .i64 0)] 37 (0, 0)) :: ((b3, .cells #[(.int .i64 x0.Kind), (.int .i64 x0.Device), (.int .i64 x0.Request), (.int .i64 0), (.int .i64 0), (.int .i64 0), (.int .i64 0)] 37 (0, 0)) :: L))) := hO94
    refine d_tail rfl ?_
    refine d_done (by kernel_rfl) ?_
    refine x_norm ?_
    refine c_next ?_
    refine c_seq ?_
    refine c_reg ?_
    refine s_loadAll Try.underlying37 rfl I37 rfl (hO95.get (i := 2) rfl) rfl rfl ?_
    refine s_storeN (vs := #[(.int .i64 x0.Kind), (.int .i64 x0.Device), (.int .i64 x0.Request), (.int .i64 0), (.int .i64 0), (.int .i64 0), (.int .i64 0)]) I37 rfl rfl rfl hO95 (i := 1) rfl (Nat.le_of_ble_eq_true rfl) (List.all_eq_true.1 rfl) ?_
    intro w97 hO97 e97
    have hO98 : Own w97 ((b1, .cells #[(.int .i64 x0.Kind), (.int .i64 x0.Device), (.int .i64 x0.Request), (.int .i64 x0.Ticket), (.int .i64 x0.For), (.int .i64 x0.Until), (.int .i64 x0.Now)] 37 (0, 0)) :: ((b2, .cells #[(.int .i64 x0.Kind), (.int .i64 x0.Device), (.int .i64 x0.Request), (.int .i64 0), (.int .i64 0), (.int .i64 0), (.int .i64 0)] 37 (0, 0)) :: ((b3, .cells #[(.int .i64 x0.Kind), (.int .i64 x0.Device), (.int .i64 x0.Request), (.int .i64 0), (.int .i64 0), (.int .i64 0), (.int .i64 0)] 37 (0, 0)) :: L))) := hO97
    refine s_nil ?_
    refine c_next ?_
    refine c_ret ?_
    refine e_r1 Try.results19 (rv_agg Try.underlying37 rfl I37 rfl (hO98.get (i := 1) rfl) rfl rfl) ?_
    obtain ⟨hO100, e100⟩ := hO98.drop1
    obtain ⟨hO101, e101⟩ := hO100.drop1
    obtain ⟨hO102, e102⟩ := hO101.drop1
    rw [← Option.some.inj h]
    exact ⟨rfl, hO102, (e3.trans (e6.trans (e11.trans (e14.trans (e17.trans (e34.trans (e63.trans (e88.trans (e90.trans (e94.trans (e97.trans (e100.trans (e101.trans e102)))))))))))))⟩
  replace h := iF h47 h
  refine sv (r_assign (v := .bool false) rfl) ?_
  refine s_nil ?_
  refine c_next ?_
  refine c_condF rfl ?_
  refine c_skip ?_
  refine x_norm ?_
  refine c_next ?_
  refine c_seq ?_
  refine c_reg ?_
  refine s_loadAll Try.underlying37 rfl I37 rfl (hO63.get (i := 2) rfl) rfl rfl ?_
  refine s_storeN (vs := #[(.int .i64 x0.Kind), (.int .i64 0), (.int .i64 0), (.int .i64 0), (.int .i64 0), (.int .i64 0), (.int .i64 0)]) I37 rfl rfl rfl hO63 (i := 1) rfl (Nat.le_of_ble_eq_true rfl) (List.all_eq_true.1 rfl) ?_
  intro w103 hO103 e103
  have hO104 : Own w103 ((b1, .cells #[(.int .i64 x0.Kind), (.int .i64 x0.Device), (.int .i64 x0.Request), (.int .i64 x0.Ticket), (.int .i64 x0.For), (.int .i64 x0.Until), (.int .i64 x0.Now)] 37 (0, 0)) :: ((b2, .cells #[(.int .i64 x0.Kind), (.int .i64 0), (.int .i64 0), (.int .i64 0), (.int .i64 0), (.int .i64 0), (.int .i64 0)] 37 (0, 0)) :: ((b3, .cells #[(.int .i64 x0.Kind), (.int .i64 0), (.int .i64 0), (.int .i64 0), (.int .i64 0), (.int .i64 0), (.int .i64 0)] 37 (0, 0)) :: L))) := hO103
  refine s_nil ?_
  refine c_next ?_
  refine c_ret ?_
  refine e_r1 Try.results19 (rv_agg Try.underlying37 rfl I37 rfl (hO104.get (i := 1) rfl) rfl rfl) ?_
  obtain ⟨hO106, e106⟩ := hO104.drop1
  obtain ⟨hO107, e107⟩ := hO106.drop1
  obtain ⟨hO108, e108⟩ := hO107.drop1
  rw [← Option.some.inj h]
  exact ⟨rfl, hO108, (e3.trans (e6.trans (e11.trans (e14.trans (e17.trans (e34.trans (e63.trans (e103.trans (e106.trans (e107.trans e108))))))))))⟩
theorem c_opcode_told (x0 : T_claim_Op)   (r : Bool) (h : F_opcode_told x0 = some r) (w : World) (L : Hp)  (hO : Own w L) :
    Calls Try.prog 55 #[(.agg #[(.int .i64 x0.Kind), (.int .i64 x0.Device), (.int .i64 x0.Request), (.int .i64 x0.Ticket), (.int .i64 x0.For), (.int .i64 x0.Until), (.int .i64 x0.Now)])] w fun en w' => en = .returned (.bool r) ∧ Own w' L ∧ Ext w L w' L := by
  unfold F_opcode_told at h
  refine enter (n := 94) [(.agg #[(.int .i64 x0.Kind), (.int .i64 x0.Device), (.int .i64 x0.Request), (.int .i64 x0.Ticket), (.int .i64 x0.For), (.int .i64 x0.Until), (.int .i64 x0.Now)])] Try.func55 rfl rfl (Nat.le_of_ble_eq_true rfl) ?_
  refine c_seq ?_
  refine c_reg ?_
  refine s_box (v := (.agg #[(.int .i64 x0.Kind), (.int .i64 x0.Device), (.int .i64 x0.Request), (.int .i64 x0.Ticket), (.int .i64 x0.For), (.int .i64 x0.Until), (.int .i64 x0.Now)])) rfl hO ?_
  intro b1 w2 hz1 hl1 hO2 e2
  have hO3 : Own w2 ((b1, .cells #[(.int .i64 x0.Kind), (.int .i64 x0.Device), (.int .i64 x0.Request), (.int .i64 x0.Ticket), (.int .i64 x0.For), (.int .i64 x0.Until), (.int .i64 x0.Now)] 37 (0, 0)) :: L) := hO2
  refine sv (r_assign (v := .bool false) rfl) ?_
  refine s_nil ?_
  refine c_next ?_
  obtain ⟨oc5, G5, hG5, h, hr5⟩ := bindG h
  refine c_cutL hO3 (fun Lc f0 g w' => ∃ (xc1_t3 : Bool), (G5 xc1_t3 = some r) ∧ g 1 = (.pointer (some ⟨b1, 0, none⟩)) ∧ g 3 = (.bool xc1_t3) ∧ Own w' ((b1, .cells #[(.int .i64 x0.Kind), (.int .i64 x0.Device), (.int .i64 x0.Request), (.int .i64 x0.Ticket), (.int .i64 x0.For), (.int .i64 x0.Until), (.int .i64 x0.Now)] 37 (0, 0)) :: L) ∧ Ext w2 Lc w' ((b1, .cells #[(.int .i64 x0.Kind), (.int .i64 x0.Device), (.int .i64 x0.Request), (.int .i64 x0.Ticket), (.int .i64 x0.For), (.int .i64 x0.Until), (.int .i64 x0.Now)] 37 (0, 0)) :: L)) ?_ ?_
  · skip
    refine c_reg ?_
    refine sv (r_fieldAddr Try.underlying37 rfl I3 (by decide) rfl) ?_
    refine s_load1 (v := .int _ _) Try.underlying3 rfl rfl (cellB (hO3.get (i := 0) rfl) rfl rfl) ?_
    refine c_geq rfl rfl (fun h7 => ?_) (fun h7 => ?_)
    · replace h := iT h7 h
      refine sv (r_move (v := .bool true) rfl) ?_
      refine g_do 8 (by rfl) rfl ?_
      refine sv (r_fieldAddr Try.underlying37 rfl I3 (by decide) rfl) ?_
      refine g_do 8 (by rfl) rfl ?_
      refine s_load1 (v := .int _ _) Try.underlying3 rfl rfl (cellB (hO3.get (i := 0) rfl) rfl rfl) ?_
      refine g_do 8 (by rfl) rfl ?_
      refine c_lss rfl rfl (fun h11 => ?_) (fun h11 => ?_)
      · replace h := iT h11 h
        refine sv (r_pickT (v := .bool true) rfl rfl) ?_
        refine sv (r_assign (v := .bool true) rfl) ?_
        refine s_nil ?_
        refine c_next ?_
        rw [← Option.some.inj h] at hr5
        exact ⟨_, rfl, true, hr5, rfl, rfl, hO3, (Ext.refl _ _)⟩
      replace h := iF (Int.not_lt.2 h11) h
      refine sv (r_pickT (v := .bool false) rfl rfl) ?_
      refine sv (r_assign (v := .bool false) rfl) ?_
      refine s_nil ?_
      refine c_next ?_
      rw [← Option.some.inj h] at hr5
      exact ⟨_, rfl, false, hr5, rfl, rfl, hO3, (Ext.refl _ _)⟩
    replace h := iF (Int.not_le.2 h7) h
    refine sv (r_move (v := .bool false) rfl) ?_
    refine g_skip 8 (by rfl) rfl (by rfl) ?_
    refine g_skip 8 (by rfl) rfl (by rfl) ?_
    refine g_skip 8 (by rfl) rfl (by rfl) ?_
    refine sv (r_pickF (v := .bool false) rfl rfl) ?_
    refine sv (r_assign (v := .bool false) rfl) ?_
    refine s_nil ?_
    refine c_next ?_
    rw [← Option.some.inj h] at hr5
    exact ⟨_, rfl, false, hr5, rfl, rfl, hO3, (Ext.refl _ _)⟩
  intro gg5 w5 hI5
  clear h hr5
  obtain ⟨xc1_t3, h, hsc1_1, hsc1_3, hO5, e5⟩ := hI5
  replace h := hG_ hG5 h; clear hG5
  obtain ⟨qq5, rfl⟩ := fr2 hsc1_1 hsc1_3
  clear hsc1_1 hsc1_3
  obtain ⟨oc10, G10, hG10, h, hr10⟩ := bindG h
  refine c_cutL hO5 (fun Lc f0 g w' => ∃ (xc2_t4 : Bool), (G10 xc2_t4 = some r) ∧ g 1 = (.pointer (some ⟨b1, 0, none⟩)) ∧ g 3 = (.bool xc1_t3) ∧ g 4 = (.bool xc2_t4) ∧ Own w' ((b1, .cells #[(.int .i64 x0.Kind), (.int .i64 x0.Device), (.int .i64 x0.Request), (.int .i64 x0.Ticket), (.int .i64 x0.For), (.int .i64 x0.Until), (.int .i64 x0.Now)] 37 (0, 0)) :: L) ∧ Ext w5 Lc w' ((b1, .cells #[(.int .i64 x0.Kind), (.int .i64 x0.Device), (.int .i64 x0.Request), (.int .i64 x0.Ticket), (.int .i64 x0.For), (.int .i64 x0.Until), (.int .i64 x0.Now)] 37 (0, 0)) :: L)) ?_ ?_
  · skip
    refine c_reg ?_
    refine sv (r_move (v := .bool _) rfl) ?_
    refine sv (r_move (v := .bool _) rfl) ?_
    rcases Bool.eq_false_or_eq_true (xc1_t3) with hb11 | hb11
    · replace h := iT hb11 h
      refine g_do 14 (by rfl) (congrArg Value.bool hb11) ?_
      refine sv (r_fieldAddr Try.underlying37 rfl I3 (by decide) rfl) ?_
      refine g_do 14 (by rfl) (congrArg Value.bool hb11) ?_
      refine s_load1 (v := .int _ _) Try.underlying3 rfl rfl (cellB (hO5.get (i := 0) rfl) rfl rfl) ?_
      refine g_do 14 (by rfl) (congrArg Value.bool hb11) ?_
      obtain ⟨y17, hy17, h⟩ := bindE h
      refine s_call cf73 rfl (c_opcode_count x0.Request 1 _ hy17 _ _ hO5) ?_
      rintro er17 w12 ⟨rfl, hO12, e12⟩
      refine ⟨_, rfl, ?_⟩
      refine sv (r_pickT (v := .bool _) (by exact (congrArg Value.bool hb11)) rfl) ?_
      refine sv (r_assign (v := .bool _) rfl) ?_
      refine s_nil ?_
      refine c_next ?_
      rw [← Option.some.inj h] at hr10
      exact ⟨_, rfl, y17, hr10, rfl, rfl, rfl, hO12, e12⟩
    replace h := iF (nt hb11) h
    refine g_skip 14 (by rfl) (congrArg Value.bool hb11) (by rfl) ?_
    refine g_skip 14 (by rfl) (congrArg Value.bool hb11) (by rfl) ?_
    refine g_skip 14 (by rfl) (congrArg Value.bool hb11) (by rfl) ?_
    refine sv (r_pickF (v := .bool false) (by exact (congrArg Value.bool hb11)) rfl) ?_
    refine sv (r_assign (v := .bool false) rfl) ?_
    refine s_nil ?_
    refine c_next ?_
    rw [← Option.some.inj h] at hr10
    exact ⟨_, rfl, false, hr10, rfl, rfl, rfl, hO5, (Ext.refl _ _)⟩
  intro gg10 w10 hI10
  clear h hr10
  obtain ⟨xc2_t4, h, hsc2_1, hsc2_3, hsc2_4, hO10, e10⟩ := hI10
  replace h := hG_ hG10 h; clear hG10
  obtain ⟨qq10, rfl⟩ := fr3 hsc2_1 hsc2_3 hsc2_4
  clear hsc2_1 hsc2_3 hsc2_4
  refine c_seq ?_
  refine c_seq ?_
  refine c_reg ?_
  refine sv (r_fieldAddr Try.underlying37 rfl I3 (by decide) rfl) ?_
  refine s_load1 (v := .int _ _) Try.underlying3 rfl rfl (cellB (hO10.get (i := 0) rfl) rfl rfl) ?_
  refine s_nil ?_
  refine c_next ?_
  refine c_block ?_
  obtain ⟨oc13, G13, hG13, h, hr13⟩ := bindG h
  refine c_cutL hO10 (fun Lc f0 g w' => ∃ (xc3_t21 : Bool), (G13 xc3_t21 = some r) ∧ g 1 = (.pointer (some ⟨b1, 0, none⟩)) ∧ g 3 = (.bool xc1_t3) ∧ g 4 = (.bool xc2_t4) ∧ g 20 = (.int .i64 x0.Kind) ∧ g 21 = (.bool xc3_t21) ∧ Own w' ((b1, .cells #[(.int .i64 x0.Kind), (.int .i64 x0.Device), (.int .i64 x0.Request), (.int .i64 x0.Ticket), (.int .i64 x0.For), (.int .i64 x0.Until), (.int .i64 x0.Now)] 37 (0, 0)) :: L) ∧ Ext w10 Lc w' ((b1, .cells #[(.int .i64 x0.Kind), (.int .i64 x0.Device), (.int .i64 x0.Request), (.int .i64 x0.Ticket), (.int .i64 x0.For), (.int .i64 x0.Until), (.int .i64 x0.Now)] 37 (0, 0)) :: L)) ?_ ?_
  · skip
    refine c_seq ?_
    refine c_reg ?_
    refine c_eql rfl rfl (fun h22 => ?_) (fun h22 => ?_)
    · replace h := iT h22 h
      refine sv (r_assign (v := .bool true) rfl) ?_
      refine s_nil ?_
      refine c_next ?_
      refine c_condT rfl ?_
      refine c_skip ?_
      refine c_next ?_
      rw [← Option.some.inj h] at hr13
      exact ⟨_, rfl, true, hr13, rfl, rfl, rfl, rfl, rfl, hO10, (Ext.refl _ _)⟩
    replace h := iF h22 h
    refine sv (r_assign (v := .bool false) rfl) ?_
    refine s_nil ?_
    refine c_next ?_
    refine c_condF rfl ?_
    refine c_reg ?_
    refine c_eql rfl rfl (fun h23 => ?_) (fun h23 => ?_)
    · replace h := iT h23 h
      refine sv (r_assign (v := .bool true) rfl) ?_
      refine s_nil ?_
      refine c_next ?_
      rw [← Option.some.inj h] at hr13
      exact ⟨_, rfl, true, hr13, rfl, rfl, rfl, rfl, rfl, hO10, (Ext.refl _ _)⟩
    replace h := iF h23 h
    refine sv (r_assign (v := .bool false) rfl) ?_
    refine s_nil ?_
    refine c_next ?_
    rw [← Option.some.inj h] at hr13
    exact ⟨_, rfl, false, hr13, rfl, rfl, rfl, rfl, rfl, hO10, (Ext.refl _ _)⟩
  intro gg13 w13 hI13
  clear h hr13
  obtain ⟨xc3_t21, h, hsc3_1, hsc3_3, hsc3_4, hsc3_20, hsc3_21, hO13, e13⟩ := hI13
  replace h := hG_ hG13 h; clear hG13
  obtain ⟨qq13, rfl⟩ := fr5 hsc3_1 hsc3_3 hsc3_4 hsc3_20 hsc3_21
  clear hsc3_1 hsc3_3 hsc3_4 hsc3_20 hsc3_21
  rcases Bool.eq_false_or_eq_true (xc3_t21) with hb14 | hb14
  · replace h := iT hb14 h
    refine c_condT (congrArg Value.bool hb14) ?_
    refine c_seq ?_
    refine d_startL hO13 hO13 7 (by kernel_rfl) (pk_then (pk_block (pk_then pk_body))) ?_
    intro hP16 wd16 hK16 hO15 e15
    refine dT (i := 0) (listed' := #[I_,O_,O_,O_,O_,O_,O_,O_]) rfl hP16 hK16 (fun wS hS => (rl_all Try.underlying37 rfl I37 rfl (hS.own.get (i := 0) rfl) rfl rfl)) ?_
    refine dT (i := 1) (listed' := #[I_,I_,O_,O_,O_,O_,O_,O_]) rfl hP16 hK16 (fun wS hS => (rl_all Try.underlying37 rfl I37 rfl (hS.own.get (i := 0) rfl) rfl rfl)) ?_
    refine d1 (i := 2) (listed' := #[I_,I_,I_,O_,O_,O_,O_,O_]) ?_
    obtain ⟨y26, hy26, h⟩ := bindE h
    refine s_call cf19 rfl (c_opcode_Own x0 _ hy26 _ _ hO15) ?_
    rintro er26 w17 ⟨rfl, hO17, e17⟩
    refine ⟨_, rfl, ?_⟩
    have hK18 : Kept w13 _ _ w17 := Kept.to (e15.trans e17) hO17
    refine d_back hK18 ?_
    refine dT (i := 3) (listed' := #[I_,I_,I_,I_,O_,O_,O_,O_]) rfl hP16 hK18 (fun wS hS => (r_stEq (u := x0) (v := y26) (by kernel_rfl) (fun D => eq_37 D _ _ _) rfl rfl)) ?_
    refine dT (i := 4) (listed' := #[I_,I_,I_,I_,I_,O_,O_,O_]) rfl hP16 hK18 (fun wS hS => (r_move (v := .bool _) rfl)) ?_
    rcases Bool.eq_false_or_eq_true ((decide (x0 = y26))) with hb19 | hb19
    · replace h := iT hb19 h
      refine dG (i := 5) (listed' := #[I_,I_,I_,I_,I_,I_,O_,O_]) rfl 28 hP16 (congrArg Value.bool hb19) hK18 (fun wS hS => (r_move (v := .bool _) rfl)) ?_
      refine dT (i := 6) (listed' := #[I_,I_,I_,I_,I_,I_,I_,O_]) rfl hP16 hK18 (fun wS hS => (r_pickT (v := .bool _) (by exact (congrArg Value.bool hb19)) rfl)) ?_
      refine d1 (i := 7) (listed' := #[I_,I_,I_,I_,I_,I_,I_,I_]) ?_
      refine sv (r_assign (v := .bool _) rfl) ?_
      refine d_tail rfl ?_
      refine d_done (by kernel_rfl) ?_
      refine c_next ?_
      refine c_ret ?_
      refine r_block ?_
      refine r_then ?_
      refine e_1 (v := .bool _) Try.results55 rfl ?_
      obtain ⟨hO20, e20⟩ := hO17.drop1
      rw [← Option.some.inj h]
      exact ⟨rfl, hO20, (e2.trans (e5.trans (e10.trans (e13.trans (e15.trans (e17.trans e20))))))⟩
    replace h := iF (nt hb19) h
    refine dS (i := 5) (listed' := #[I_,I_,I_,I_,I_,I_,O_,O_]) rfl 28 hP16 (congrArg Value.bool hb19) hK18 ?_
    refine dT (i := 6) (listed' := #[I_,I_,I_,I_,I_,I_,I_,O_]) rfl hP16 hK18 (fun wS hS => (r_pickF (v := .bool false) (by exact (congrArg Value.bool hb19)) rfl)) ?_
    refine d1 (i := 7) (listed' := #[I_,I_,I_,I_,I_,I_,I_,I_]) ?_
    refine sv (r_assign (v := .bool false) rfl) ?_
    refine d_tail rfl ?_
    refine d_done (by kernel_rfl) ?_
    refine c_next ?_
    refine c_ret ?_
    refine r_block ?_
    refine r_then ?_
    refine e_1 (v := .bool false) Try.results55 rfl ?_
    obtain ⟨hO21, e21⟩ := hO17.drop1
    rw [← Option.some.inj h]
    exact ⟨rfl, hO21, (e2.trans (e5.trans (e10.trans (e13.trans (e15.trans (e17.trans e21))))))⟩
  replace h := iF (nt hb14) h
  refine c_condF (congrArg Value.bool hb14) ?_
  obtain ⟨oc22, G22, hG22, h, hr22⟩ := bindG h
  refine c_cutL hO13 (fun Lc f0 g w' => ∃ (xc4_t31 : Bool), (G22 xc4_t31 = some r) ∧ g 1 = (.pointer (some ⟨b1, 0, none⟩)) ∧ g 4 = (.bool xc2_t4) ∧ g 20 = (.int .i64 x0.Kind) ∧ g 31 = (.bool xc4_t31) ∧ Own w' ((b1, .cells #[(.int .i64 x0.Kind), (.int .i64 x0.Device), (.int .i64 x0.Request), (.int .i64 x0.Ticket), (.int .i64 x0.For), (.int .i64 x0.Until), (.int .i64 x0.Now)] 37 (0, 0)) :: L) ∧ Ext w13 Lc w' ((b1, .cells #[(.int .i64 x0.Kind), (.int .i64 x0.Device), (.int .i64 x0.Request), (.int .i64 x0.Ticket), (.int .i64 x0.For), (.int .i64 x0.Until), (.int .i64 x0.Now)] 37 (0, 0)) :: L)) ?_ ?_
  · skip
    refine c_reg ?_
    refine c_eql rfl rfl (fun h32 => ?_) (fun h32 => ?_)
    · replace h := iT h32 h
      refine sv (r_assign (v := .bool true) rfl) ?_
      refine s_nil ?_
      refine c_next ?_
      rw [← Option.some.inj h] at hr22
      exact ⟨_, rfl, true, hr22, rfl, rfl, rfl, rfl, hO13, (Ext.refl _ _)⟩
    replace h := iF h32 h
    refine sv (r_assign (v := .bool false) rfl) ?_
    refine s_nil ?_
    refine c_next ?_
    rw [← Option.some.inj h] at hr22
    exact ⟨_, rfl, false, hr22, rfl, rfl, rfl, rfl, hO13, (Ext.refl _ _)⟩
  intro gg22 w22 hI22
  clear h hr22
  obtain ⟨xc4_t31, h, hsc4_1, hsc4_4, hsc4_20, hsc4_31, hO22, e22⟩ := hI22
  replace h := hG_ hG22 h; clear hG22
  obtain ⟨qq22, rfl⟩ := fr4 hsc4_1 hsc4_4 hsc4_20 hsc4_31
  clear hsc4_1 hsc4_4 hsc4_20 hsc4_31
  rcases Bool.eq_false_or_eq_true (xc4_t31) with hb23 | hb23
  · replace h := iT hb23 h
    refine c_condT (congrArg Value.bool hb23) ?_
    refine c_seq ?_
    refine d_startL hO22 hO22 27 (by kernel_rfl) (pk_then (pk_block (pk_then pk_body))) ?_
    intro hP25 wd25 hK25 hO24 e24
    refine dT (i := 0) (listed' := #[I_,O_,O_,O_,O_,O_,O_,O_,O_,O_,O_,O_,O_,O_,O_,O_,O_,O_,O_,O_,O_,O_,O_,O_,O_,O_,O_,O_]) rfl hP25 hK25 (fun wS hS => (rl_all Try.underlying37 rfl I37 rfl (hS.own.get (i := 0) rfl) rfl rfl)) ?_
    refine dT (i := 1) (listed' := #[I_,I_,O_,O_,O_,O_,O_,O_,O_,O_,O_,O_,O_,O_,O_,O_,O_,O_,O_,O_,O_,O_,O_,O_,O_,O_,O_,O_]) rfl hP25 hK25 (fun wS hS => (rl_all Try.underlying37 rfl I37 rfl (hS.own.get (i := 0) rfl) rfl rfl)) ?_
    refine d1 (i := 2) (listed' := #[I_,I_,I_,O_,O_,O_,O_,O_,O_,O_,O_,O_,O_,O_,O_,O_,O_,O_,O_,O_,O_,O_,O_,O_,O_,O_,O_,O_]) ?_
    obtain ⟨y35, hy35, h⟩ := bindE h
    refine s_call cf19 rfl (c_opcode_Own x0 _ hy35 _ _ hO24) ?_
    rintro er35 w26 ⟨rfl, hO26, e26⟩
    refine ⟨_, rfl, ?_⟩
    have hK27 : Kept w22 _ _ w26 := Kept.to (e24.trans e26) hO26
    refine d_back hK27 ?_
    refine dT (i := 3) (listed' := #[I_,I_,I_,I_,O_,O_,O_,O_,O_,O_,O_,O_,O_,O_,O_,O_,O_,O_,O_,O_,O_,O_,O_,O_,O_,O_,O_,O_]) rfl hP25 hK27 (fun wS hS => (r_stEq (u := x0) (v := y35) (by kernel_rfl) (fun D => eq_37 D _ _ _) rfl rfl)) ?_
    refine dT (i := 4) (listed' := #[I_,I_,I_,I_,I_,O_,O_,O_,O_,O_,O_,O_,O_,O_,O_,O_,O_,O_,O_,O_,O_,O_,O_,O_,O_,O_,O_,O_]) rfl hP25 hK27 (fun wS hS => (r_move (v := .bool _) rfl)) ?_
    rcases Bool.eq_false_or_eq_true ((decide (x0 = y35))) with hb28 | hb28
    · replace h := iT hb28 h
      refine dG (i := 5) (listed' := #[I_,I_,I_,I_,I_,I_,O_,O_,O_,O_,O_,O_,O_,O_,O_,O_,O_,O_,O_,O_,O_,O_,O_,O_,O_,O_,O_,O_]) rfl 37 hP25 (congrArg Value.bool hb28) hK27 (fun wS hS => (r_move (v := .bool _) rfl)) ?_
      refine dT (i := 6) (listed' := #[I_,I_,I_,I_,I_,I_,I_,O_,O_,O_,O_,O_,O_,O_,O_,O_,O_,O_,O_,O_,O_,O_,O_,O_,O_,O_,O_,O_]) rfl hP25 hK27 (fun wS hS => (r_pickT (v := .bool _) (by exact (congrArg Value.bool hb28)) rfl)) ?_
      refine dT (i := 7) (listed' := #[I_,I_,I_,I_,I_,I_,I_,I_,O_,O_,O_,O_,O_,O_,O_,O_,O_,O_,O_,O_,O_,O_,O_,O_,O_,O_,O_,O_]) rfl hP25 hK27 (fun wS hS => (r_move (v := .bool _) rfl)) ?_
      rcases Bool.eq_false_or_eq_true (xc2_t4) with hb29 | hb29
      · replace h := iT hb29 h
        refine dG (i := 8) (listed' := #[I_,I_,I_,I_,I_,I_,I_,I_,I_,O_,O_,O_,O_,O_,O_,O_,O_,O_,O_,O_,O_,O_,O_,O_,O_,O_,O_,O_]) rfl 40 hP25 (congrArg Value.bool hb29) hK27 (fun wS hS => (r_fieldAddr Try.underlying37 rfl I3 (by decide) rfl)) ?_
        refine dG (i := 9) (listed' := #[I_,I_,I_,I_,I_,I_,I_,I_,I_,I_,O_,O_,O_,O_,O_,O_,O_,O_,O_,O_,O_,O_,O_,O_,O_,O_,O_,O_]) rfl 40 hP25 (congrArg Value.bool hb29) hK27 (fun wS hS => (r_load1 (v := .int _ _) Try.underlying3 rfl rfl (cellB (hS.own.get (i := 0) rfl) rfl rfl))) ?_
        refine dt_geqG (i := 10) (listed' := #[I_,I_,I_,I_,I_,I_,I_,I_,I_,I_,I_,O_,O_,O_,O_,O_,O_,O_,O_,O_,O_,O_,O_,O_,O_,O_,O_,O_]) (by rfl) (by kernel_rfl) (by rfl) hP25.u 40 (by rfl) (congrArg Value.bool hb29) hK27 rfl rfl (fun h43 => ?_) (fun h43 => ?_)
        · replace h := iT h43 h
          refine dT (i := 11) (listed' := #[I_,I_,I_,I_,I_,I_,I_,I_,I_,I_,I_,I_,O_,O_,O_,O_,O_,O_,O_,O_,O_,O_,O_,O_,O_,O_,O_,O_]) rfl hP25 hK27 (fun wS hS => (r_pickT (v := .bool true) (by exact (congrArg Value.bool hb29)) rfl)) ?_
          refine dT (i := 12) (listed' := #[I_,I_,I_,I_,I_,I_,I_,I_,I_,I_,I_,I_,I_,O_,O_,O_,O_,O_,O_,O_,O_,O_,O_,O_,O_,O_,O_,O_]) rfl hP25 hK27 (fun wS hS => (r_move (v := .bool true) rfl)) ?_
          refine dG (i := 13) (listed' := #[I_,I_,I_,I_,I_,I_,I_,I_,I_,I_,I_,I_,I_,I_,O_,O_,O_,O_,O_,O_,O_,O_,O_,O_,O_,O_,O_,O_]) rfl 45 hP25 rfl hK27 (fun wS hS => (r_fieldAddr Try.underlying37 rfl I3 (by decide) rfl)) ?_
          refine dG (i := 14) (listed' := #[I_,I_,I_,I_,I_,I_,I_,I_,I_,I_,I_,I_,I_,I_,I_,O_,O_,O_,O_,O_,O_,O_,O_,O_,O_,O_,O_,O_]) rfl 45 hP25 rfl hK27 (fun wS hS => (r_load1 (v := .int _ _) Try.underlying3 rfl rfl (cellB (hS.own.get (i := 0) rfl) rfl rfl))) ?_
          refine dt_lssG (i := 15) (listed' := #[I_,I_,I_,I_,I_,I_,I_,I_,I_,I_,I_,I_,I_,I_,I_,I_,O_,O_,O_,O_,O_,O_,O_,O_,O_,O_,O_,O_]) (by rfl) (by kernel_rfl) (by rfl) hP25.u 45 (by rfl) rfl hK27 rfl rfl (fun h48 => ?_) (fun h48 => ?_)
          · replace h := iT h48 h
            refine dT (i := 16) (listed' := #[I_,I_,I_,I_,I_,I_,I_,I_,I_,I_,I_,I_,I_,I_,I_,I_,I_,O_,O_,O_,O_,O_,O_,O_,O_,O_,O_,O_]) rfl hP25 hK27 (fun wS hS => (r_pickT (v := .bool true) rfl rfl)) ?_
            refine dT (i := 17) (listed' := #[I_,I_,I_,I_,I_,I_,I_,I_,I_,I_,I_,I_,I_,I_,I_,I_,I_,I_,O_,O_,O_,O_,O_,O_,O_,O_,O_,O_]) rfl hP25 hK27 (fun wS hS => (r_move (v := .bool true) rfl)) ?_
            refine dG (i := 18) (listed' := #[I_,I_,I_,I_,I_,I_,I_,I_,I_,I_,I_,I_,I_,I_,I_,I_,I_,I_,I_,O_,O_,O_,O_,O_,O_,O_,O_,O_]) rfl 50 hP25 rfl hK27 (fun wS hS => (r_fieldAddr Try.underlying37 rfl I3 (by decide) rfl)) ?_
            refine dG (i := 19) (listed' := #[I_,I_,I_,I_,I_,I_,I_,I_,I_,I_,I_,I_,I_,I_,I_,I_,I_,I_,I_,I_,O_,O_,O_,O_,O_,O_,O_,O_]) rfl 50 hP25 rfl hK27 (fun wS hS => (r_load1 (v := .int _ _) Try.underlying3 rfl rfl (cellB (hS.own.get (i := 0) rfl) rfl rfl))) ?_
            refine d1 (i := 20) (listed' := #[I_,I_,I_,I_,I_,I_,I_,I_,I_,I_,I_,I_,I_,I_,I_,I_,I_,I_,I_,I_,I_,O_,O_,O_,O_,O_,O_,O_]) ?_
            refine g_do 50 (by rfl) rfl ?_
            obtain ⟨y53, hy53, h⟩ := bindE h
            refine s_call cf73 rfl (c_opcode_count x0.Until 0 _ hy53 _ _ hO26) ?_
            rintro er53 w30 ⟨rfl, hO30, e30⟩
            refine ⟨_, rfl, ?_⟩
            have hK31 : Kept w22 _ _ w30 := Kept.to (e24.trans (e26.trans e30)) hO30
            refine d_back hK31 ?_
            refine dT (i := 21) (listed' := #[I_,I_,I_,I_,I_,I_,I_,I_,I_,I_,I_,I_,I_,I_,I_,I_,I_,I_,I_,I_,I_,I_,O_,O_,O_,O_,O_,O_]) rfl hP25 hK31 (fun wS hS => (r_pickT (v := .bool _) rfl rfl)) ?_
            refine dT (i := 22) (listed' := #[I_,I_,I_,I_,I_,I_,I_,I_,I_,I_,I_,I_,I_,I_,I_,I_,I_,I_,I_,I_,I_,I_,I_,O_,O_,O_,O_,O_]) rfl hP25 hK31 (fun wS hS => (r_move (v := .bool _) rfl)) ?_
            rcases Bool.eq_false_or_eq_true (y53) with hb32 | hb32
            · replace h := iT hb32 h
              refine dG (i := 23) (listed' := #[I_,I_,I_,I_,I_,I_,I_,I_,I_,I_,I_,I_,I_,I_,I_,I_,I_,I_,I_,I_,I_,I_,I_,I_,O_,O_,O_,O_]) rfl 55 hP25 (congrArg Value.bool hb32) hK31 (fun wS hS => (r_fieldAddr Try.underlying37 rfl I3 (by decide) rfl)) ?_
              refine dG (i := 24) (listed' := #[I_,I_,I_,I_,I_,I_,I_,I_,I_,I_,I_,I_,I_,I_,I_,I_,I_,I_,I_,I_,I_,I_,I_,I_,I_,O_,O_,O_]) rfl 55 hP25 (congrArg Value.bool hb32) hK31 (fun wS hS => (r_load1 (v := .int _ _) Try.underlying3 rfl rfl (cellB (hS.own.get (i := 0) rfl) rfl rfl))) ?_
              refine d1 (i := 25) (listed' := #[I_,I_,I_,I_,I_,I_,I_,I_,I_,I_,I_,I_,I_,I_,I_,I_,I_,I_,I_,I_,I_,I_,I_,I_,I_,I_,O_,O_]) ?_
              refine g_do 55 (by rfl) (congrArg Value.bool hb32) ?_
              obtain ⟨y58, hy58, h⟩ := bindE h
              refine s_call cf73 rfl (c_opcode_count x0.Now 0 _ hy58 _ _ hO30) ?_
              rintro er58 w33 ⟨rfl, hO33, e33⟩
              refine ⟨_, rfl, ?_⟩
              have hK34 : Kept w22 _ _ w33 := Kept.to (e24.trans (e26.trans (e30.trans e33))) hO33
              refine d_back hK34 ?_
              refine dT (i := 26) (listed' := #[I_,I_,I_,I_,I_,I_,I_,I_,I_,I_,I_,I_,I_,I_,I_,I_,I_,I_,I_,I_,I_,I_,I_,I_,I_,I_,I_,O_]) rfl hP25 hK34 (fun wS hS => (r_pickT (v := .bool _) (by exact (congrArg Value.bool hb32)) rfl)) ?_
              refine d1 (i := 27) (listed' := #[I_,I_,I_,I_,I_,I_,I_,I_,I_,I_,I_,I_,I_,I_,I_,I_,I_,I_,I_,I_,I_,I_,I_,I_,I_,I_,I_,I_]) ?_
              refine sv (r_assign (v := .bool _) rfl) ?_
              refine d_tail rfl ?_
              refine d_done (by kernel_rfl) ?_
              refine c_next ?_
              refine c_ret ?_
              refine r_block ?_
              refine r_then ?_
              refine e_1 (v := .bool _) Try.results55 rfl ?_
              obtain ⟨hO35, e35⟩ := hO33.drop1
              rw [← Option.some.inj h]
              exact ⟨rfl, hO35, (e2.trans (e5.trans (e10.trans (e13.trans (e22.trans (e24.trans (e26.trans (e30.trans (e33.trans e35)))))))))⟩
            replace h := iF (nt hb32) h
            refine dS (i := 23) (listed' := #[I_,I_,I_,I_,I_,I_,I_,I_,I_,I_,I_,I_,I_,I_,I_,I_,I_,I_,I_,I_,I_,I_,I_,I_,O_,O_,O_,O_]) rfl 55 hP25 (congrArg Value.bool hb32) hK31 ?_
            refine dS (i := 24) (listed' := #[I_,I_,I_,I_,I_,I_,I_,I_,I_,I_,I_,I_,I_,I_,I_,I_,I_,I_,I_,I_,I_,I_,I_,I_,I_,O_,O_,O_]) rfl 55 hP25 (congrArg Value.bool hb32) hK31 ?_
            refine dS (i := 25) (listed' := #[I_,I_,I_,I_,I_,I_,I_,I_,I_,I_,I_,I_,I_,I_,I_,I_,I_,I_,I_,I_,I_,I_,I_,I_,I_,I_,O_,O_]) rfl 55 hP25 (congrArg Value.bool hb32) hK31 ?_
            refine dT (i := 26) (listed' := #[I_,I_,I_,I_,I_,I_,I_,I_,I_,I_,I_,I_,I_,I_,I_,I_,I_,I_,I_,I_,I_,I_,I_,I_,I_,I_,I_,O_]) rfl hP25 hK31 (fun wS hS => (r_pickF (v := .bool false) (by exact (congrArg Value.bool hb32)) rfl)) ?_
            refine d1 (i := 27) (listed' := #[I_,I_,I_,I_,I_,I_,I_,I_,I_,I_,I_,I_,I_,I_,I_,I_,I_,I_,I_,I_,I_,I_,I_,I_,I_,I_,I_,I_]) ?_
            refine sv (r_assign (v := .bool false) rfl) ?_
            refine d_tail rfl ?_
            refine d_done (by kernel_rfl) ?_
            refine c_next ?_
            refine c_ret ?_
            refine r_block ?_
            refine r_then ?_
            refine e_1 (v := .bool false) Try.results55 rfl ?_
            obtain ⟨hO36, e36⟩ := hO30.drop1
            rw [← Option.some.inj h]
            exact ⟨rfl, hO36, (e2.trans (e5.trans (e10.trans (e13.trans (e22.trans (e24.trans (e26.trans (e30.trans e36))))))))⟩
          replace h := iF (Int.not_lt.2 h48) h
          refine dT (i := 16) (listed' := #[I_,I_,I_,I_,I_,I_,I_,I_,I_,I_,I_,I_,I_,I_,I_,I_,I_,O_,O_,O_,O_,O_,O_,O_,O_,O_,O_,O_]) rfl hP25 hK27 (fun wS hS => (r_pickT (v := .bool false) rfl rfl)) ?_
          refine dT (i := 17) (listed' := #[I_,I_,I_,I_,I_,I_,I_,I_,I_,I_,I_,I_,I_,I_,I_,I_,I_,I_,O_,O_,O_,O_,O_,O_,O_,O_,O_,O_]) rfl hP25 hK27 (fun wS hS => (r_move (v := .bool false) rfl)) ?_
          refine dS (i := 18) (listed' := #[I_,I_,I_,I_,I_,I_,I_,I_,I_,I_,I_,I_,I_,I_,I_,I_,I_,I_,I_,O_,O_,O_,O_,O_,O_,O_,O_,O_]) rfl 50 hP25 rfl hK27 ?_
          refine dS (i := 19) (listed' := #[I_,I_,I_,I_,I_,I_,I_,I_,I_,I_,I_,I_,I_,I_,I_,I_,I_,I_,I_,I_,O_,O_,O_,O_,O_,O_,O_,O_]) rfl 50 hP25 rfl hK27 ?_
          refine dS (i := 20) (listed' := #[I_,I_,I_,I_,I_,I_,I_,I_,I_,I_,I_,I_,I_,I_,I_,I_,I_,I_,I_,I_,I_,O_,O_,O_,O_,O_,O_,O_]) rfl 50 hP25 rfl hK27 ?_
          refine dT (i := 21) (listed' := #[I_,I_,I_,I_,I_,I_,I_,I_,I_,I_,I_,I_,I_,I_,I_,I_,I_,I_,I_,I_,I_,I_,O_,O_,O_,O_,O_,O_]) rfl hP25 hK27 (fun wS hS => (r_pickF (v := .bool false) rfl rfl)) ?_
          refine dT (i := 22) (listed' := #[I_,I_,I_,I_,I_,I_,I_,I_,I_,I_,I_,I_,I_,I_,I_,I_,I_,I_,I_,I_,I_,I_,I_,O_,O_,O_,O_,O_]) rfl hP25 hK27 (fun wS hS => (r_move (v := .bool false) rfl)) ?_
          refine dS (i := 23) (listed' := #[I_,I_,I_,I_,I_,I_,I_,I_,I_,I_,I_,I_,I_,I_,I_,I_,I_,I_,I_,I_,I_,I_,I_,I_,O_,O_,O_,O_]) rfl 55 hP25 rfl hK27 ?_
          refine dS (i := 24) (listed' := #[I_,I_,I_,I_,I_,I_,I_,I_,I_,I_,I_,I_,I_,I_,I_,I_,I_,I_,I_,I_,I_,I_,I_,I_,I_,O_,O_,O_]) rfl 55 hP25 rfl hK27 ?_
          refine dS (i := 25) (listed' := #[I_,I_,I_,I_,I_,I_,I_,I_,I_,I_,I_,I_,I_,I_,I_,I_,I_,I_,I_,I_,I_,I_,I_,I_,I_,I_,O_,O_]) rfl 55 hP25 rfl hK27 ?_
          refine dT (i := 26) (listed' := #[I_,I_,I_,I_,I_,I_,I_,I_,I_,I_,I_,I_,I_,I_,I_,I_,I_,I_,I_,I_,I_,I_,I_,I_,I_,I_,I_,O_]) rfl hP25 hK27 (fun wS hS => (r_pickF (v := .bool false) rfl rfl)) ?_
          refine d1 (i := 27) (listed' := #[I_,I_,I_,I_,I_,I_,I_,I_,I_,I_,I_,I_,I_,I_,I_,I_,I_,I_,I_,I_,I_,I_,I_,I_,I_,I_,I_,I_]) ?_
          refine sv (r_assign (v := .bool false) rfl) ?_
          refine d_tail rfl ?_
          refine d_done (by kernel_rfl) ?_
          refine c_next ?_
          refine c_ret ?_
          refine r_block ?_
          refine r_then ?_
          refine e_1 (v := .bool false) Try.results55 rfl ?_
          obtain ⟨hO37, e37⟩ := hO26.drop1
          rw [← Option.some.inj h]
          exact ⟨rfl, hO37, (e2.trans (e5.trans (e10.trans (e13.trans (e22.trans (e24.trans (e26.trans e37)))))))⟩
        replace h := iF (Int.not_le.2 h43) h
        refine dT (i := 11) (listed' := #[I_,I_,I_,I_,I_,I_,I_,I_,I_,I_,I_,I_,O_,O_,O_,O_,O_,O_,O_,O_,O_,O_,O_,O_,O_,O_,O_,O_]) rfl hP25 hK27 (fun wS hS => (r_pickT (v := .bool false) (by exact (congrArg Value.bool hb29)) rfl)) ?_
        refine dT (i := 12) (listed' := #[I_,I_,I_,I_,I_,I_,I_,I_,I_,I_,I_,I_,I_,O_,O_,O_,O_,O_,O_,O_,O_,O_,O_,O_,O_,O_,O_,O_]) rfl hP25 hK27 (fun wS hS => (r_move (v := .bool false) rfl)) ?_
        refine dS (i := 13) (listed' := #[I_,I_,I_,I_,I_,I_,I_,I_,I_,I_,I_,I_,I_,I_,O_,O_,O_,O_,O_,O_,O_,O_,O_,O_,O_,O_,O_,O_]) rfl 45 hP25 rfl hK27 ?_
        refine dS (i := 14) (listed' := #[I_,I_,I_,I_,I_,I_,I_,I_,I_,I_,I_,I_,I_,I_,I_,O_,O_,O_,O_,O_,O_,O_,O_,O_,O_,O_,O_,O_]) rfl 45 hP25 rfl hK27 ?_
        refine dS (i := 15) (listed' := #[I_,I_,I_,I_,I_,I_,I_,I_,I_,I_,I_,I_,I_,I_,I_,I_,O_,O_,O_,O_,O_,O_,O_,O_,O_,O_,O_,O_]) rfl 45 hP25 rfl hK27 ?_
        refine dT (i := 16) (listed' := #[I_,I_,I_,I_,I_,I_,I_,I_,I_,I_,I_,I_,I_,I_,I_,I_,I_,O_,O_,O_,O_,O_,O_,O_,O_,O_,O_,O_]) rfl hP25 hK27 (fun wS hS => (r_pickF (v := .bool false) rfl rfl)) ?_
        refine dT (i := 17) (listed' := #[I_,I_,I_,I_,I_,I_,I_,I_,I_,I_,I_,I_,I_,I_,I_,I_,I_,I_,O_,O_,O_,O_,O_,O_,O_,O_,O_,O_]) rfl hP25 hK27 (fun wS hS => (r_move (v := .bool false) rfl)) ?_
        refine dS (i := 18) (listed' := #[I_,I_,I_,I_,I_,I_,I_,I_,I_,I_,I_,I_,I_,I_,I_,I_,I_,I_,I_,O_,O_,O_,O_,O_,O_,O_,O_,O_]) rfl 50 hP25 rfl hK27 ?_
        refine dS (i := 19) (listed' := #[I_,I_,I_,I_,I_,I_,I_,I_,I_,I_,I_,I_,I_,I_,I_,I_,I_,I_,I_,I_,O_,O_,O_,O_,O_,O_,O_,O_]) rfl 50 hP25 rfl hK27 ?_
        refine dS (i := 20) (listed' := #[I_,I_,I_,I_,I_,I_,I_,I_,I_,I_,I_,I_,I_,I_,I_,I_,I_,I_,I_,I_,I_,O_,O_,O_,O_,O_,O_,O_]) rfl 50 hP25 rfl hK27 ?_
        refine dT (i := 21) (listed' := #[I_,I_,I_,I_,I_,I_,I_,I_,I_,I_,I_,I_,I_,I_,I_,I_,I_,I_,I_,I_,I_,I_,O_,O_,O_,O_,O_,O_]) rfl hP25 hK27 (fun wS hS => (r_pickF (v := .bool false) rfl rfl)) ?_
        refine dT (i := 22) (listed' := #[I_,I_,I_,I_,I_,I_,I_,I_,I_,I_,I_,I_,I_,I_,I_,I_,I_,I_,I_,I_,I_,I_,I_,O_,O_,O_,O_,O_]) rfl hP25 hK27 (fun wS hS => (r_move (v := .bool false) rfl)) ?_
        refine dS (i := 23) (listed' := #[I_,I_,I_,I_,I_,I_,I_,I_,I_,I_,I_,I_,I_,I_,I_,I_,I_,I_,I_,I_,I_,I_,I_,I_,O_,O_,O_,O_]) rfl 55 hP25 rfl hK27 ?_
        refine dS (i := 24) (listed' := #[I_,I_,I_,I_,I_,I_,I_,I_,I_,I_,I_,I_,I_,I_,I_,I_,I_,I_,I_,I_,I_,I_,I_,I_,I_,O_,O_,O_]) rfl 55 hP25 rfl hK27 ?_
        refine dS (i := 25) (listed' := #[I_,I_,I_,I_,I_,I_,I_,I_,I_,I_,I_,I_,I_,I_,I_,I_,I_,I_,I_,I_,I_,I_,I_,I_,I_,I_,O_,O_]) rfl 55 hP25 rfl hK27 ?_
        refine dT (i := 26) (listed' := #[I_,I_,I_,I_,I_,I_,I_,I_,I_,I_,I_,I_,I_,I_,I_,I_,I_,I_,I_,I_,I_,I_,I_,I_,I_,I_,I_,O_]) rfl hP25 hK27 (fun wS hS => (r_pickF (v := .bool false) rfl rfl)) ?_
        refine d1 (i := 27) (listed' := #[I_,I_,I_,I_,I_,I_,I_,I_,I_,I_,I_,I_,I_,I_,I_,I_,I_,I_,I_,I_,I_,I_,I_,I_,I_,I_,I_,I_]) ?_
        refine sv (r_assign (v := .bool false) rfl) ?_
        refine d_tail rfl ?_
        refine d_done (by kernel_rfl) ?_
        refine c_next ?_
        refine c_ret ?_
        refine r_block ?_
        refine r_then ?_
        refine e_1 (v := .bool false) Try.results55 rfl ?_
        obtain ⟨hO38, e38⟩ := hO26.drop1
        rw [← Option.some.inj h]
        exact ⟨rfl, hO38, (e2.trans (e5.trans (e10.trans (e13.trans (e22.trans (e24.trans (e26.trans e38)))))))⟩
      replace h := iF (nt hb29) h
      refine dS (i := 8) (listed' := #[I_,I_,I_,I_,I_,I_,I_,I_,I_,O_,O_,O_,O_,O_,O_,O_,O_,O_,O_,O_,O_,O_,O_,O_,O_,O_,O_,O_]) rfl 40 hP25 (congrArg Value.bool hb29) hK27 ?_
      refine dS (i := 9) (listed' := #[I_,I_,I_,I_,I_,I_,I_,I_,I_,I_,O_,O_,O_,O_,O_,O_,O_,O_,O_,O_,O_,O_,O_,O_,O_,O_,O_,O_]) rfl 40 hP25 (congrArg Value.bool hb29) hK27 ?_
      refine dS (i := 10) (listed' := #[I_,I_,I_,I_,I_,I_,I_,I_,I_,I_,I_,O_,O_,O_,O_,O_,O_,O_,O_,O_,O_,O_,O_,O_,O_,O_,O_,O_]) rfl 40 hP25 (congrArg Value.bool hb29) hK27 ?_
      refine dT (i := 11) (listed' := #[I_,I_,I_,I_,I_,I_,I_,I_,I_,I_,I_,I_,O_,O_,O_,O_,O_,O_,O_,O_,O_,O_,O_,O_,O_,O_,O_,O_]) rfl hP25 hK27 (fun wS hS => (r_pickF (v := .bool false) (by exact (congrArg Value.bool hb29)) rfl)) ?_
      refine dT (i := 12) (listed' := #[I_,I_,I_,I_,I_,I_,I_,I_,I_,I_,I_,I_,I_,O_,O_,O_,O_,O_,O_,O_,O_,O_,O_,O_,O_,O_,O_,O_]) rfl hP25 hK27 (fun wS hS => (r_move (v := .bool false) rfl)) ?_
      refine dS (i := 13) (listed' := #[I_,I_,I_,I_,I_,I_,I_,I_,I_,I_,I_,I_,I_,I_,O_,O_,O_,O_,O_,O_,O_,O_,O_,O_,O_,O_,O_,O_]) rfl 45 hP25 rfl hK27 ?_
      refine dS (i := 14) (listed' := #[I_,I_,I_,I_,I_,I_,I_,I_,I_,I_,I_,I_,I_,I_,I_,O_,O_,O_,O_,O_,O_,O_,O_,O_,O_,O_,O_,O_]) rfl 45 hP25 rfl hK27 ?_
      refine dS (i := 15) (listed' := #[I_,I_,I_,I_,I_,I_,I_,I_,I_,I_,I_,I_,I_,I_,I_,I_,O_,O_,O_,O_,O_,O_,O_,O_,O_,O_,O_,O_]) rfl 45 hP25 rfl hK27 ?_
      refine dT (i := 16) (listed' := #[I_,I_,I_,I_,I_,I_,I_,I_,I_,I_,I_,I_,I_,I_,I_,I_,I_,O_,O_,O_,O_,O_,O_,O_,O_,O_,O_,O_]) rfl hP25 hK27 (fun wS hS => (r_pickF (v := .bool false) rfl rfl)) ?_
      refine dT (i := 17) (listed' := #[I_,I_,I_,I_,I_,I_,I_,I_,I_,I_,I_,I_,I_,I_,I_,I_,I_,I_,O_,O_,O_,O_,O_,O_,O_,O_,O_,O_]) rfl hP25 hK27 (fun wS hS => (r_move (v := .bool false) rfl)) ?_
      refine dS (i := 18) (listed' := #[I_,I_,I_,I_,I_,I_,I_,I_,I_,I_,I_,I_,I_,I_,I_,I_,I_,I_,I_,O_,O_,O_,O_,O_,O_,O_,O_,O_]) rfl 50 hP25 rfl hK27 ?_
      refine dS (i := 19) (listed' := #[I_,I_,I_,I_,I_,I_,I_,I_,I_,I_,I_,I_,I_,I_,I_,I_,I_,I_,I_,I_,O_,O_,O_,O_,O_,O_,O_,O_]) rfl 50 hP25 rfl hK27 ?_
      refine dS (i := 20) (listed' := #[I_,I_,I_,I_,I_,I_,I_,I_,I_,I_,I_,I_,I_,I_,I_,I_,I_,I_,I_,I_,I_,O_,O_,O_,O_,O_,O_,O_]) rfl 50 hP25 rfl hK27 ?_
      refine dT (i := 21) (listed' := #[I_,I_,I_,I_,I_,I_,I_,I_,I_,I_,I_,I_,I_,I_,I_,I_,I_,I_,I_,I_,I_,I_,O_,O_,O_,O_,O_,O_]) rfl hP25 hK27 (fun wS hS => (r_pickF (v := .bool false) rfl rfl)) ?_
      refine dT (i := 22) (listed' := #[I_,I_,I_,I_,I_,I_,I_,I_,I_,I_,I_,I_,I_,I_,I_,I_,I_,I_,I_,I_,I_,I_,I_,O_,O_,O_,O_,O_]) rfl hP25 hK27 (fun wS hS => (r_move (v := .bool false) rfl)) ?_
      refine dS (i := 23) (listed' := #[I_,I_,I_,I_,I_,I_,I_,I_,I_,I_,I_,I_,I_,I_,I_,I_,I_,I_,I_,I_,I_,I_,I_,I_,O_,O_,O_,O_]) rfl 55 hP25 rfl hK27 ?_
      refine dS (i := 24) (listed' := #[I_,I_,I_,I_,I_,I_,I_,I_,I_,I_,I_,I_,I_,I_,I_,I_,I_,I_,I_,I_,I_,I_,I_,I_,I_,O_,O_,O_]) rfl 55 hP25 rfl hK27 ?_
      refine dS (i := 25) (listed' := #[I_,I_,I_,I_,I_,I_,I_,I_,I_,I_,I_,I_,I_,I_,I_,I_,I_,I_,I_,I_,I_,I_,I_,I_,I_,I_,O_,O_]) rfl 55 hP25 rfl hK27 ?_
      refine dT (i := 26) (listed' := #[I_,I_,I_,I_,I_,I_,I_,I_,I_,I_,I_,I_,I_,I_,I_,I_,I_,I_,I_,I_,I_,I_,I_,I_,I_,I_,I_,O_]) rfl hP25 hK27 (fun wS hS => (r_pickF (v := .bool false) rfl rfl)) ?_
      refine d1 (i := 27) (listed' := #[I_,I_,I_,I_,I_,I_,I_,I_,I_,I_,I_,I_,I_,I_,I_,I_,I_,I_,I_,I_,I_,I_,I_,I_,I_,I_,I_,I_]) ?_
      refine sv (r_assign (v := .bool false) rfl) ?_
      refine d_tail rfl ?_
      refine d_done (by kernel_rfl) ?_
      refine c_next ?_
      refine c_ret ?_
      refine r_block ?_
      refine r_then ?_
      refine e_1 (v := .bool false) Try.results55 rfl ?_
      obtain ⟨hO39, e39⟩ := hO26.drop1
      rw [← Option.some.inj h]
      exact ⟨rfl, hO39, (e2.trans (e5.trans (e10.trans (e13.trans (e22.trans (e24.trans (e26.trans e39)))))))⟩
    replace h := iF (nt hb28) h
    refine dS (i := 5) (listed' := #[I_,I_,I_,I_,I_,I_,O_,O_,O_,O_,O_,O_,O_,O_,O_,O_,O_,O_,O_,O_,O_,O_,O_,O_,O_,O_,O_,O_]) rfl 37 hP25 (congrArg Value.bool hb28) hK27 ?_
    refine dT (i := 6) (listed' := #[I_,I_,I_,I_,I_,I_,I_,O_,O_,O_,O_,O_,O_,O_,O_,O_,O_,O_,O_,O_,O_,O_,O_,O_,O_,O_,O_,O_]) rfl hP25 hK27 (fun wS hS => (r_pickF (v := .bool false) (by exact (congrArg Value.bool hb28)) rfl)) ?_
    refine dT (i := 7) (listed' := #[I_,I_,I_,I_,I_,I_,I_,I_,O_,O_,O_,O_,O_,O_,O_,O_,O_,O_,O_,O_,O_,O_,O_,O_,O_,O_,O_,O_]) rfl hP25 hK27 (fun wS hS => (r_move (v := .bool false) rfl)) ?_
    refine dS (i := 8) (listed' := #[I_,I_,I_,I_,I_,I_,I_,I_,I_,O_,O_,O_,O_,O_,O_,O_,O_,O_,O_,O_,O_,O_,O_,O_,O_,O_,O_,O_]) rfl 40 hP25 rfl hK27 ?_
    refine dS (i := 9) (listed' := #[I_,I_,I_,I_,I_,I_,I_,I_,I_,I_,O_,O_,O_,O_,O_,O_,O_,O_,O_,O_,O_,O_,O_,O_,O_,O_,O_,O_]) rfl 40 hP25 rfl hK27 ?_
    refine dS (i := 10) (listed' := #[I_,I_,I_,I_,I_,I_,I_,I_,I_,I_,I_,O_,O_,O_,O_,O_,O_,O_,O_,O_,O_,O_,O_,O_,O_,O_,O_,O_]) rfl 40 hP25 rfl hK27 ?_
    refine dT (i := 11) (listed' := #[I_,I_,I_,I_,I_,I_,I_,I_,I_,I_,I_,I_,O_,O_,O_,O_,O_,O_,O_,O_,O_,O_,O_,O_,O_,O_,O_,O_]) rfl hP25 hK27 (fun wS hS => (r_pickF (v := .bool false) rfl rfl)) ?_
    refine dT (i := 12) (listed' := #[I_,I_,I_,I_,I_,I_,I_,I_,I_,I_,I_,I_,I_,O_,O_,O_,O_,O_,O_,O_,O_,O_,O_,O_,O_,O_,O_,O_]) rfl hP25 hK27 (fun wS hS => (r_move (v := .bool false) rfl)) ?_
    refine dS (i := 13) (listed' := #[I_,I_,I_,I_,I_,I_,I_,I_,I_,I_,I_,I_,I_,I_,O_,O_,O_,O_,O_,O_,O_,O_,O_,O_,O_,O_,O_,O_]) rfl 45 hP25 rfl hK27 ?_
    refine dS (i := 14) (listed' := #[I_,I_,I_,I_,I_,I_,I_,I_,I_,I_,I_,I_,I_,I_,I_,O_,O_,O_,O_,O_,O_,O_,O_,O_,O_,O_,O_,O_]) rfl 45 hP25 rfl hK27 ?_
    refine dS (i := 15) (listed' := #[I_,I_,I_,I_,I_,I_,I_,I_,I_,I_,I_,I_,I_,I_,I_,I_,O_,O_,O_,O_,O_,O_,O_,O_,O_,O_,O_,O_]) rfl 45 hP25 rfl hK27 ?_
    refine dT (i := 16) (listed' := #[I_,I_,I_,I_,I_,I_,I_,I_,I_,I_,I_,I_,I_,I_,I_,I_,I_,O_,O_,O_,O_,O_,O_,O_,O_,O_,O_,O_]) rfl hP25 hK27 (fun wS hS => (r_pickF (v := .bool false) rfl rfl)) ?_
    refine dT (i := 17) (listed' := #[I_,I_,I_,I_,I_,I_,I_,I_,I_,I_,I_,I_,I_,I_,I_,I_,I_,I_,O_,O_,O_,O_,O_,O_,O_,O_,O_,O_]) rfl hP25 hK27 (fun wS hS => (r_move (v := .bool false) rfl)) ?_
    refine dS (i := 18) (listed' := #[I_,I_,I_,I_,I_,I_,I_,I_,I_,I_,I_,I_,I_,I_,I_,I_,I_,I_,I_,O_,O_,O_,O_,O_,O_,O_,O_,O_]) rfl 50 hP25 rfl hK27 ?_
    refine dS (i := 19) (listed' := #[I_,I_,I_,I_,I_,I_,I_,I_,I_,I_,I_,I_,I_,I_,I_,I_,I_,I_,I_,I_,O_,O_,O_,O_,O_,O_,O_,O_]) rfl 50 hP25 rfl hK27 ?_
    refine dS (i := 20) (listed' := #[I_,I_,I_,I_,I_,I_,I_,I_,I_,I_,I_,I_,I_,I_,I_,I_,I_,I_,I_,I_,I_,O_,O_,O_,O_,O_,O_,O_]) rfl 50 hP25 rfl hK27 ?_
    refine dT (i := 21) (listed' := #[I_,I_,I_,I_,I_,I_,I_,I_,I_,I_,I_,I_,I_,I_,I_,I_,I_,I_,I_,I_,I_,I_,O_,O_,O_,O_,O_,O_]) rfl hP25 hK27 (fun wS hS => (r_pickF (v := .bool false) rfl rfl)) ?_
    refine dT (i := 22) (listed' := #[I_,I_,I_,I_,I_,I_,I_,I_,I_,I_,I_,I_,I_,I_,I_,I_,I_,I_,I_,I_,I_,I_,I_,O_,O_,O_,O_,O_]) rfl hP25 hK27 (fun wS hS => (r_move (v := .bool false) rfl)) ?_
    refine dS (i := 23) (listed' := #[I_,I_,I_,I_,I_,I_,I_,I_,I_,I_,I_,I_,I_,I_,I_,I_,I_,I_,I_,I_,I_,I_,I_,I_,O_,O_,O_,O_]) rfl 55 hP25 rfl hK27 ?_
    refine dS (i := 24) (listed' := #[I_,I_,I_,I_,I_,I_,I_,I_,I_,I_,I_,I_,I_,I_,I_,I_,I_,I_,I_,I_,I_,I_,I_,I_,I_,O_,O_,O_]) rfl 55 hP25 rfl hK27 ?_
    refine dS (i := 25) (listed' := #[I_,I_,I_,I_,I_,I_,I_,I_,I_,I_,I_,I_,I_,I_,I_,I_,I_,I_,I_,I_,I_,I_,I_,I_,I_,I_,O_,O_]) rfl 55 hP25 rfl hK27 ?_
    refine dT (i := 26) (listed' := #[I_,I_,I_,I_,I_,I_,I_,I_,I_,I_,I_,I_,I_,I_,I_,I_,I_,I_,I_,I_,I_,I_,I_,I_,I_,I_,I_,O_]) rfl hP25 hK27 (fun wS hS => (r_pickF (v := .bool false) rfl rfl)) ?_
    refine d1 (i := 27) (listed' := #[I_,I_,I_,I_,I_,I_,I_,I_,I_,I_,I_,I_,I_,I_,I_,I_,I_,I_,I_,I_,I_,I_,I_,I_,I_,I_,I_,I_]) ?_
    refine sv (r_assign (v := .bool false) rfl) ?_
    refine d_tail rfl ?_
    refine d_done (by kernel_rfl) ?_
    refine c_next ?_
    refine c_ret ?_
    refine r_block ?_
    refine r_then ?_
    refine e_1 (v := .bool false) Try.results55 rfl ?_
    obtain ⟨hO40, e40⟩ := hO26.drop1
    rw [← Option.some.inj h]
    exact ⟨rfl, hO40, (e2.trans (e5.trans (e10.trans (e13.trans (e22.trans (e24.trans (e26.trans e40)))))))⟩
  replace h := iF (nt hb23) h
  refine c_condF (congrArg Value.bool hb23) ?_
  obtain ⟨oc41, G41, hG41, h, hr41⟩ := bindG h
  refine c_cutL hO22 (fun Lc f0 g w' => ∃ (xc5_t60 : Bool), (G41 xc5_t60 = some r) ∧ g 1 = (.pointer (some ⟨b1, 0, none⟩)) ∧ g 4 = (.bool xc2_t4) ∧ g 20 = (.int .i64 x0.Kind) ∧ g 60 = (.bool xc5_t60) ∧ Own w' ((b1, .cells #[(.int .i64 x0.Kind), (.int .i64 x0.Device), (.int .i64 x0.Request), (.int .i64 x0.Ticket), (.int .i64 x0.For), (.int .i64 x0.Until), (.int .i64 x0.Now)] 37 (0, 0)) :: L) ∧ Ext w22 Lc w' ((b1, .cells #[(.int .i64 x0.Kind), (.int .i64 x0.Device), (.int .i64 x0.Request), (.int .i64 x0.Ticket), (.int .i64 x0.For), (.int .i64 x0.Until), (.int .i64 x0.Now)] 37 (0, 0)) :: L)) ?_ ?_
  · skip
    refine c_reg ?_
    refine c_eql rfl rfl (fun h61 => ?_) (fun h61 => ?_)
    · replace h := iT h61 h
      refine sv (r_assign (v := .bool true) rfl) ?_
      refine s_nil ?_
      refine c_next ?_
      rw [← Option.some.inj h] at hr41
      exact ⟨_, rfl, true, hr41, rfl, rfl, rfl, rfl, hO22, (Ext.refl _ _)⟩
    replace h := iF h61 h
    refine sv (r_assign (v := .bool false) rfl) ?_
    refine s_nil ?_
    refine c_next ?_
    rw [← Option.some.inj h] at hr41
    exact ⟨_, rfl, false, hr41, rfl, rfl, rfl, rfl, hO22, (Ext.refl _ _)⟩
  intro gg41 w41 hI41
  clear h hr41
  obtain ⟨xc5_t60, h, hsc5_1, hsc5_4, hsc5_20, hsc5_60, hO41, e41⟩ := hI41
  replace h := hG_ hG41 h; clear hG41
  obtain ⟨qq41, rfl⟩ := fr4 hsc5_1 hsc5_4 hsc5_20 hsc5_60
  clear hsc5_1 hsc5_4 hsc5_20 hsc5_60
  rcases Bool.eq_false_or_eq_true (xc5_t60) with hb42 | hb42
  · replace h := iT hb42 h
    refine c_condT (congrArg Value.bool hb42) ?_
    refine c_seq ?_
    refine d_startL hO41 hO41 17 (by kernel_rfl) (pk_then (pk_block (pk_then pk_body))) ?_
    intro hP44 wd44 hK44 hO43 e43
    refine dT (i := 0) (listed' := #[I_,O_,O_,O_,O_,O_,O_,O_,O_,O_,O_,O_,O_,O_,O_,O_,O_,O_]) rfl hP44 hK44 (fun wS hS => (rl_all Try.underlying37 rfl I37 rfl (hS.own.get (i := 0) rfl) rfl rfl)) ?_
    refine dT (i := 1) (listed' := #[I_,I_,O_,O_,O_,O_,O_,O_,O_,O_,O_,O_,O_,O_,O_,O_,O_,O_]) rfl hP44 hK44 (fun wS hS => (rl_all Try.underlying37 rfl I37 rfl (hS.own.get (i := 0) rfl) rfl rfl)) ?_
    refine d1 (i := 2) (listed' := #[I_,I_,I_,O_,O_,O_,O_,O_,O_,O_,O_,O_,O_,O_,O_,O_,O_,O_]) ?_
    obtain ⟨y64, hy64, h⟩ := bindE h
    refine s_call cf19 rfl (c_opcode_Own x0 _ hy64 _ _ hO43) ?_
    rintro er64 w45 ⟨rfl, hO45, e45⟩
    refine ⟨_, rfl, ?_⟩
    have hK46 : Kept w41 _ _ w45 := Kept.to (e43.trans e45) hO45
    refine d_back hK46 ?_
    refine dT (i := 3) (listed' := #[I_,I_,I_,I_,O_,O_,O_,O_,O_,O_,O_,O_,O_,O_,O_,O_,O_,O_]) rfl hP44 hK46 (fun wS hS => (r_stEq (u := x0) (v := y64) (by kernel_rfl) (fun D => eq_37 D _ _ _) rfl rfl)) ?_
    refine dT (i := 4) (listed' := #[I_,I_,I_,I_,I_,O_,O_,O_,O_,O_,O_,O_,O_,O_,O_,O_,O_,O_]) rfl hP44 hK46 (fun wS hS => (r_move (v := .bool _) rfl)) ?_
    rcases Bool.eq_false_or_eq_true ((decide (x0 = y64))) with hb47 | hb47
    · replace h := iT hb47 h
      refine dG (i := 5) (listed' := #[I_,I_,I_,I_,I_,I_,O_,O_,O_,O_,O_,O_,O_,O_,O_,O_,O_,O_]) rfl 66 hP44 (congrArg Value.bool hb47) hK46 (fun wS hS => (r_move (v := .bool _) rfl)) ?_
      refine dT (i := 6) (listed' := #[I_,I_,I_,I_,I_,I_,I_,O_,O_,O_,O_,O_,O_,O_,O_,O_,O_,O_]) rfl hP44 hK46 (fun wS hS => (r_pickT (v := .bool _) (by exact (congrArg Value.bool hb47)) rfl)) ?_
      refine dT (i := 7) (listed' := #[I_,I_,I_,I_,I_,I_,I_,I_,O_,O_,O_,O_,O_,O_,O_,O_,O_,O_]) rfl hP44 hK46 (fun wS hS => (r_move (v := .bool _) rfl)) ?_
      rcases Bool.eq_false_or_eq_true (xc2_t4) with hb48 | hb48
      · replace h := iT hb48 h
        refine dG (i := 8) (listed' := #[I_,I_,I_,I_,I_,I_,I_,I_,I_,O_,O_,O_,O_,O_,O_,O_,O_,O_]) rfl 69 hP44 (congrArg Value.bool hb48) hK46 (fun wS hS => (r_fieldAddr Try.underlying37 rfl I3 (by decide) rfl)) ?_
        refine dG (i := 9) (listed' := #[I_,I_,I_,I_,I_,I_,I_,I_,I_,I_,O_,O_,O_,O_,O_,O_,O_,O_]) rfl 69 hP44 (congrArg Value.bool hb48) hK46 (fun wS hS => (r_load1 (v := .int _ _) Try.underlying3 rfl rfl (cellB (hS.own.get (i := 0) rfl) rfl rfl))) ?_
        refine d1 (i := 10) (listed' := #[I_,I_,I_,I_,I_,I_,I_,I_,I_,I_,I_,O_,O_,O_,O_,O_,O_,O_]) ?_
        refine g_do 69 (by rfl) (congrArg Value.bool hb48) ?_
        obtain ⟨y72, hy72, h⟩ := bindE h
        refine s_call cf73 rfl (c_opcode_count x0.Ticket 1 _ hy72 _ _ hO45) ?_
        rintro er72 w49 ⟨rfl, hO49, e49⟩
        refine ⟨_, rfl, ?_⟩
        have hK50 : Kept w41 _ _ w49 := Kept.to (e43.trans (e45.trans e49)) hO49
        refine d_back hK50 ?_
        refine dT (i := 11) (listed' := #[I_,I_,I_,I_,I_,I_,I_,I_,I_,I_,I_,I_,O_,O_,O_,O_,O_,O_]) rfl hP44 hK50 (fun wS hS => (r_pickT (v := .bool _) (by exact (congrArg Value.bool hb48)) rfl)) ?_
        refine dT (i := 12) (listed' := #[I_,I_,I_,I_,I_,I_,I_,I_,I_,I_,I_,I_,I_,O_,O_,O_,O_,O_]) rfl hP44 hK50 (fun wS hS => (r_move (v := .bool _) rfl)) ?_
        rcases Bool.eq_false_or_eq_true (y72) with hb51 | hb51
        · replace h := iT hb51 h
          refine dG (i := 13) (listed' := #[I_,I_,I_,I_,I_,I_,I_,I_,I_,I_,I_,I_,I_,I_,O_,O_,O_,O_]) rfl 74 hP44 (congrArg Value.bool hb51) hK50 (fun wS hS => (r_fieldAddr Try.underlying37 rfl I3 (by decide) rfl)) ?_
          refine dG (i := 14) (listed' := #[I_,I_,I_,I_,I_,I_,I_,I_,I_,I_,I_,I_,I_,I_,I_,O_,O_,O_]) rfl 74 hP44 (congrArg Value.bool hb51) hK50 (fun wS hS => (r_load1 (v := .int _ _) Try.underlying3 rfl rfl (cellB (hS.own.get (i := 0) rfl) rfl rfl))) ?_
          refine d1 (i := 15) (listed' := #[I_,I_,I_,I_,I_,I_,I_,I_,I_,I_,I_,I_,I_,I_,I_,I_,O_,O_]) ?_
          refine g_do 74 (by rfl) (congrArg Value.bool hb51) ?_
          obtain ⟨y77, hy77, h⟩ := bindE h
          refine s_call cf73 rfl (c_opcode_count x0.Now 0 _ hy77 _ _ hO49) ?_
          rintro er77 w52 ⟨rfl, hO52, e52⟩
          refine ⟨_, rfl, ?_⟩
          have hK53 : Kept w41 _ _ w52 := Kept.to (e43.trans (e45.trans (e49.trans e52))) hO52
          refine d_back hK53 ?_
          refine dT (i := 16) (listed' := #[I_,I_,I_,I_,I_,I_,I_,I_,I_,I_,I_,I_,I_,I_,I_,I_,I_,O_]) rfl hP44 hK53 (fun wS hS => (r_pickT (v := .bool _) (by exact (congrArg Value.bool hb51)) rfl)) ?_
          refine d1 (i := 17) (listed' := #[I_,I_,I_,I_,I_,I_,I_,I_,I_,I_,I_,I_,I_,I_,I_,I_,I_,I_]) ?_
          refine sv (r_assign (v := .bool _) rfl) ?_
          refine d_tail rfl ?_
          refine d_done (by kernel_rfl) ?_
          refine c_next ?_
          refine c_ret ?_
          refine r_block ?_
          refine r_then ?_
          refine e_1 (v := .bool _) Try.results55 rfl ?_
          obtain ⟨hO54, e54⟩ := hO52.drop1
          rw [← Option.some.inj h]
          exact ⟨rfl, hO54, (e2.trans (e5.trans (e10.trans (e13.trans (e22.trans (e41.trans (e43.trans (e45.trans (e49.trans (e52.trans e54))))))))))⟩
        replace h := iF (nt hb51) h
        refine dS (i := 13) (listed' := #[I_,I_,I_,I_,I_,I_,I_,I_,I_,I_,I_,I_,I_,I_,O_,O_,O_,O_]) rfl 74 hP44 (congrArg Value.bool hb51) hK50 ?_
        refine dS (i := 14) (listed' := #[I_,I_,I_,I_,I_,I_,I_,I_,I_,I_,I_,I_,I_,I_,I_,O_,O_,O_]) rfl 74 hP44 (congrArg Value.bool hb51) hK50 ?_
        refine dS (i := 15) (listed' := #[I_,I_,I_,I_,I_,I_,I_,I_,I_,I_,I_,I_,I_,I_,I_,I_,O_,O_]) rfl 74 hP44 (congrArg Value.bool hb51) hK50 ?_
        refine dT (i := 16) (listed' := #[I_,I_,I_,I_,I_,I_,I_,I_,I_,I_,I_,I_,I_,I_,I_,I_,I_,O_]) rfl hP44 hK50 (fun wS hS => (r_pickF (v := .bool false) (by exact (congrArg Value.bool hb51)) rfl)) ?_
        refine d1 (i := 17) (listed' := #[I_,I_,I_,I_,I_,I_,I_,I_,I_,I_,I_,I_,I_,I_,I_,I_,I_,I_]) ?_
        refine sv (r_assign (v := .bool false) rfl) ?_
        refine d_tail rfl ?_
        refine d_done (by kernel_rfl) ?_
        refine c_next ?_
        refine c_ret ?_
        refine r_block ?_
        refine r_then ?_
        refine e_1 (v := .bool false) Try.results55 rfl ?_
        obtain ⟨hO55, e55⟩ := hO49.drop1
        rw [← Option.some.inj h]
        exact ⟨rfl, hO55, (e2.trans (e5.trans (e10.trans (e13.trans (e22.trans (e41.trans (e43.trans (e45.trans (e49.trans e55)))))))))⟩
      replace h := iF (nt hb48) h
      refine dS (i := 8) (listed' := #[I_,I_,I_,I_,I_,I_,I_,I_,I_,O_,O_,O_,O_,O_,O_,O_,O_,O_]) rfl 69 hP44 (congrArg Value.bool hb48) hK46 ?_
      refine dS (i := 9) (listed' := #[I_,I_,I_,I_,I_,I_,I_,I_,I_,I_,O_,O_,O_,O_,O_,O_,O_,O_]) rfl 69 hP44 (congrArg Value.bool hb48) hK46 ?_
      refine dS (i := 10) (listed' := #[I_,I_,I_,I_,I_,I_,I_,I_,I_,I_,I_,O_,O_,O_,O_,O_,O_,O_]) rfl 69 hP44 (congrArg Value.bool hb48) hK46 ?_
      refine dT (i := 11) (listed' := #[I_,I_,I_,I_,I_,I_,I_,I_,I_,I_,I_,I_,O_,O_,O_,O_,O_,O_]) rfl hP44 hK46 (fun wS hS => (r_pickF (v := .bool false) (by exact (congrArg Value.bool hb48)) rfl)) ?_
      refine dT (i := 12) (listed' := #[I_,I_,I_,I_,I_,I_,I_,I_,I_,I_,I_,I_,I_,O_,O_,O_,O_,O_]) rfl hP44 hK46 (fun wS hS => (r_move (v := .bool false) rfl)) ?_
      refine dS (i := 13) (listed' := #[I_,I_,I_,I_,I_,I_,I_,I_,I_,I_,I_,I_,I_,I_,O_,O_,O_,O_]) rfl 74 hP44 rfl hK46 ?_
      refine dS (i := 14) (listed' := #[I_,I_,I_,I_,I_,I_,I_,I_,I_,I_,I_,I_,I_,I_,I_,O_,O_,O_]) rfl 74 hP44 rfl hK46 ?_
      refine dS (i := 15) (listed' := #[I_,I_,I_,I_,I_,I_,I_,I_,I_,I_,I_,I_,I_,I_,I_,I_,O_,O_]) rfl 74 hP44 rfl hK46 ?_
      refine dT (i := 16) (listed' := #[I_,I_,I_,I_,I_,I_,I_,I_,I_,I_,I_,I_,I_,I_,I_,I_,I_,O_]) rfl hP44 hK46 (fun wS hS => (r_pickF (v := .bool false) rfl rfl)) ?_
      refine d1 (i := 17) (listed' := #[I_,I_,I_,I_,I_,I_,I_,I_,I_,I_,I_,I_,I_,I_,I_,I_,I_,I_]) ?_
      refine sv (r_assign (v := .bool false) rfl) ?_
      refine d_tail rfl ?_
      refine d_done (by kernel_rfl) ?_
      refine c_next ?_
      refine c_ret ?_
      refine r_block ?_
      refine r_then ?_
      refine e_1 (v := .bool false) Try.results55 rfl ?_
      obtain ⟨hO56, e56⟩ := hO45.drop1
      rw [← Option.some.inj h]
      exact ⟨rfl, hO56, (e2.trans (e5.trans (e10.trans (e13.trans (e22.trans (e41.trans (e43.trans (e45.trans e56))))))))⟩
    replace h := iF (nt hb47) h
    refine dS (i := 5) (listed' := #[I_,I_,I_,I_,I_,I_,O_,O_,O_,O_,O_,O_,O_,O_,O_,O_,O_,O_]) rfl 66 hP44 (congrArg Value.bool hb47) hK46 ?_
    refine dT (i := 6) (listed' := #[I_,I_,I_,I_,I_,I_,I_,O_,O_,O_,O_,O_,O_,O_,O_,O_,O_,O_]) rfl hP44 hK46 (fun wS hS => (r_pickF (v := .bool false) (by exact (congrArg Value.bool hb47)) rfl)) ?_
    refine dT (i := 7) (listed' := #[I_,I_,I_,I_,I_,I_,I_,I_,O_,O_,O_,O_,O_,O_,O_,O_,O_,O_]) rfl hP44 hK46 (fun wS hS => (r_move (v := .bool false) rfl)) ?_
    refine dS (i := 8) (listed' := #[I_,I_,I_,I_,I_,I_,I_,I_,I_,O_,O_,O_,O_,O_,O_,O_,O_,O_]) rfl 69 hP44 rfl hK46 ?_
    refine dS (i := 9) (listed' := #[I_,I_,I_,I_,I_,I_,I_,I_,I_,I_,O_,O_,O_,O_,O_,O_,O_,O_]) rfl 69 hP44 rfl hK46 ?_
    refine dS (i := 10) (listed' := #[I_,I_,I_,I_,I_,I_,I_,I_,I_,I_,I_,O_,O_,O_,O_,O_,O_,O_]) rfl 69 hP44 rfl hK46 ?_
    refine dT (i := 11) (listed' := #[I_,I_,I_,I_,I_,I_,I_,I_,I_,I_,I_,I_,O_,O_,O_,O_,O_,O_]) rfl hP44 hK46 (fun wS hS => (r_pickF (v := .bool false) rfl rfl)) ?_
    refine dT (i := 12) (listed' := #[I_,I_,I_,I_,I_,I_,I_,I_,I_,I_,I_,I_,I_,O_,O_,O_,O_,O_]) rfl hP44 hK46 (fun wS hS => (r_move (v := .bool false) rfl)) ?_
    refine dS (i := 13) (listed' := #[I_,I_,I_,I_,I_,I_,I_,I_,I_,I_,I_,I_,I_,I_,O_,O_,O_,O_]) rfl 74 hP44 rfl hK46 ?_
    refine dS (i := 14) (listed' := #[I_,I_,I_,I_,I_,I_,I_,I_,I_,I_,I_,I_,I_,I_,I_,O_,O_,O_]) rfl 74 hP44 rfl hK46 ?_
    refine dS (i := 15) (listed' := #[I_,I_,I_,I_,I_,I_,I_,I_,I_,I_,I_,I_,I_,I_,I_,I_,O_,O_]) rfl 74 hP44 rfl hK46 ?_
    refine dT (i := 16) (listed' := #[I_,I_,I_,I_,I_,I_,I_,I_,I_,I_,I_,I_,I_,I_,I_,I_,I_,O_]) rfl hP44 hK46 (fun wS hS => (r_pickF (v := .bool false) rfl rfl)) ?_
    refine d1 (i := 17) (listed' := #[I_,I_,I_,I_,I_,I_,I_,I_,I_,I_,I_,I_,I_,I_,I_,I_,I_,I_]) ?_
    refine sv (r_assign (v := .bool false) rfl) ?_
    refine d_tail rfl ?_
    refine d_done (by kernel_rfl) ?_
    refine c_next ?_
    refine c_ret ?_
    refine r_block ?_
    refine r_then ?_
    refine e_1 (v := .bool false) Try.results55 rfl ?_
    obtain ⟨hO57, e57⟩ := hO45.drop1
    rw [← Option.some.inj h]
    exact ⟨rfl, hO57, (e2.trans (e5.trans (e10.trans (e13.trans (e22.trans (e41.trans (e43.trans (e45.trans e57))))))))⟩
  replace h := iF (nt hb42) h
  refine c_condF (congrArg Value.bool hb42) ?_
  refine c_seq ?_
  refine c_reg ?_
  refine c_eql rfl rfl (fun h80 => ?_) (fun h80 => ?_)
  · replace h := iT h80 h
    refine sv (r_assign (v := .bool true) rfl) ?_
    refine s_nil ?_
    refine c_next ?_
    refine c_condT rfl ?_
    refine c_seq ?_
    refine d_startL hO41 hO41 7 (by kernel_rfl) (pk_then (pk_block (pk_then pk_body))) ?_
    intro hP59 wd59 hK59 hO58 e58
    refine dT (i := 0) (listed' := #[I_,O_,O_,O_,O_,O_,O_,O_]) rfl hP59 hK59 (fun wS hS => (rl_all Try.underlying37 rfl I37 rfl (hS.own.get (i := 0) rfl) rfl rfl)) ?_
    refine dT (i := 1) (listed' := #[I_,I_,O_,O_,O_,O_,O_,O_]) rfl hP59 hK59 (fun wS hS => (rl_all Try.underlying37 rfl I37 rfl (hS.own.get (i := 0) rfl) rfl rfl)) ?_
    refine d1 (i := 2) (listed' := #[I_,I_,I_,O_,O_,O_,O_,O_]) ?_
    obtain ⟨y83, hy83, h⟩ := bindE h
    refine s_call cf19 rfl (c_opcode_Own x0 _ hy83 _ _ hO58) ?_
    rintro er83 w60 ⟨rfl, hO60, e60⟩
    refine ⟨_, rfl, ?_⟩
    have hK61 : Kept w41 _ _ w60 := Kept.to (e58.trans e60) hO60
    refine d_back hK61 ?_
    refine dT (i := 3) (listed' := #[I_,I_,I_,I_,O_,O_,O_,O_]) rfl hP59 hK61 (fun wS hS => (r_stEq (u := x0) (v := y83) (by kernel_rfl) (fun D => eq_37 D _ _ _) rfl rfl)) ?_
    refine dT (i := 4) (listed' := #[I_,I_,I_,I_,I_,O_,O_,O_]) rfl hP59 hK61 (fun wS hS => (r_move (v := .bool _) rfl)) ?_
    rcases Bool.eq_false_or_eq_true ((decide (x0 = y83))) with hb62 | hb62
    · replace h := iT hb62 h
      refine dG (i := 5) (listed' := #[I_,I_,I_,I_,I_,I_,O_,O_]) rfl 85 hP59 (congrArg Value.bool hb62) hK61 (fun wS hS => (r_move (v := .bool _) rfl)) ?_
      refine dT (i := 6) (listed' := #[I_,I_,I_,I_,I_,I_,I_,O_]) rfl hP59 hK61 (fun wS hS => (r_pickT (v := .bool _) (by exact (congrArg Value.bool hb62)) rfl)) ?_
      refine d1 (i := 7) (listed' := #[I_,I_,I_,I_,I_,I_,I_,I_]) ?_
      refine sv (r_assign (v := .bool _) rfl) ?_
      refine d_tail rfl ?_
      refine d_done (by kernel_rfl) ?_
      refine c_next ?_
      refine c_ret ?_
      refine r_block ?_
      refine r_then ?_
      refine e_1 (v := .bool _) Try.results55 rfl ?_
      obtain ⟨hO63, e63⟩ := hO60.drop1
      rw [← Option.some.inj h]
      exact ⟨rfl, hO63, (e2.trans (e5.trans (e10.trans (e13.trans (e22.trans (e41.trans (e58.trans (e60.trans e63))))))))⟩
    replace h := iF (nt hb62) h
    refine dS (i := 5) (listed' := #[I_,I_,I_,I_,I_,I_,O_,O_]) rfl 85 hP59 (congrArg Value.bool hb62) hK61 ?_
    refine dT (i := 6) (listed' := #[I_,I_,I_,I_,I_,I_,I_,O_]) rfl hP59 hK61 (fun wS hS => (r_pickF (v := .bool false) (by exact (congrArg Value.bool hb62)) rfl)) ?_
    refine d1 (i := 7) (listed' := #[I_,I_,I_,I_,I_,I_,I_,I_]) ?_
    refine sv (r_assign (v := .bool false) rfl) ?_
    refine d_tail rfl ?_
    refine d_done (by kernel_rfl) ?_
    refine c_next ?_
    refine c_ret ?_
    refine r_block ?_
    refine r_then ?_
    refine e_1 (v := .bool false) Try.results55 rfl ?_
    obtain ⟨hO64, e64⟩ := hO60.drop1
    rw [← Option.some.inj h]
    exact ⟨rfl, hO64, (e2.trans (e5.trans (e10.trans (e13.trans (e22.trans (e41.trans (e58.trans (e60.trans e64))))))))⟩
  replace h := iF h80 h
  refine sv (r_assign (v := .bool false) rfl) ?_
  refine s_nil ?_
  refine c_next ?_
  refine c_condF rfl ?_
  refine c_seq ?_
  refine c_reg ?_
  refine c_eql rfl rfl (fun h89 => ?_) (fun h89 => ?_)
  · replace h := iT h89 h
    refine sv (r_assign (v := .bool true) rfl) ?_
    refine s_nil ?_
    refine c_next ?_
    refine c_condT rfl ?_
    refine c_seq ?_
    refine d_startL hO41 hO41 4 (by kernel_rfl) (pk_then (pk_block (pk_then pk_body))) ?_
    intro hP66 wd66 hK66 hO65 e65
    refine dT (i := 0) (listed' := #[I_,O_,O_,O_,O_]) rfl hP66 hK66 (fun wS hS => (rl_all Try.underlying37 rfl I37 rfl (hS.own.get (i := 0) rfl) rfl rfl)) ?_
    refine dT (i := 1) (listed' := #[I_,I_,O_,O_,O_]) rfl hP66 hK66 (fun wS hS => (rl_all Try.underlying37 rfl I37 rfl (hS.own.get (i := 0) rfl) rfl rfl)) ?_
    refine d1 (i := 2) (listed' := #[I_,I_,I_,O_,O_]) ?_
    obtain ⟨y92, hy92, h⟩ := bindE h
    refine s_call cf19 rfl (c_opcode_Own x0 _ hy92 _ _ hO65) ?_
    rintro er92 w67 ⟨rfl, hO67, e67⟩
    refine ⟨_, rfl, ?_⟩
    have hK68 : Kept w41 _ _ w67 := Kept.to (e65.trans e67) hO67
    refine d_back hK68 ?_
    refine dT (i := 3) (listed' := #[I_,I_,I_,I_,O_]) rfl hP66 hK68 (fun wS hS => (r_stEq (u := x0) (v := y92) (by kernel_rfl) (fun D => eq_37 D _ _ _) rfl rfl)) ?_
    refine d1 (i := 4) (listed' := #[I_,I_,I_,I_,I_]) ?_
    refine sv (r_assign (v := .bool _) rfl) ?_
    refine d_tail rfl ?_
    refine d_done (by kernel_rfl) ?_
    refine c_next ?_
    refine c_ret ?_
    refine r_block ?_
    refine r_then ?_
    refine e_1 (v := .bool _) Try.results55 rfl ?_
    obtain ⟨hO69, e69⟩ := hO67.drop1
    rw [← Option.some.inj h]
    exact ⟨rfl, hO69, (e2.trans (e5.trans (e10.trans (e13.trans (e22.trans (e41.trans (e65.trans (e67.trans e69))))))))⟩
  replace h := iF h89 h
  refine sv (r_assign (v := .bool false) rfl) ?_
  refine s_nil ?_
  refine c_next ?_
  refine c_condF rfl ?_
  refine c_skip ?_
  refine x_norm ?_
  refine c_next ?_
  refine c_seq ?_
  refine c_reg ?_
  refine sv (r_assign (v := .bool false) rfl) ?_
  refine s_nil ?_
  refine c_next ?_
  refine c_ret ?_
  refine e_1 (v := .bool false) Try.results55 rfl ?_
  obtain ⟨hO70, e70⟩ := hO41.drop1
  rw [← Option.some.inj h]
  exact ⟨rfl, hO70, (e2.trans (e5.trans (e10.trans (e13.trans (e22.trans (e41.trans e70))))))⟩
theorem c_codec_NewWriter    (r : T_codec_Writer) (h : F_codec_NewWriter = some r) (w : World) (L : Hp)  (hO : Own w L) :
    Calls Try.prog 56 #[] w fun en w' => ∃ (rb0 : Nat) (ra0 : Option Addr) (rm0 rc0 : Nat) (rS0 : Hp), en = .returned (.pointer (some ⟨rb0, 0, none⟩)) ∧ r.b.length = rm0 ∧ OwnSl 5 1 ra0 rm0 rc0 (fl eB r.b) rS0 ∧ Own w' ((rb0, .cells #[(.slice ra0 rm0 rc0), (.int .i64 r.e)] 112 (0, 0)) :: (rS0 ++ L)) ∧ Ext w L w' ((rb0, .cells #[(.slice ra0 rm0 rc0), (.int .i64 r.e)] 112 (0, 0)) :: (rS0 ++ L)) := by
  unfold F_codec_NewWriter at h
  refine enter (n := 3) [] Try.func56 rfl rfl (Nat.le_of_ble_eq_true rfl) ?_
  refine c_seq ?_
  refine c_reg ?_
  refine sv (r_assign (v := .pointer _) rfl) ?_
  refine s_nil ?_
  refine c_next ?_
  refine c_seq ?_
  refine c_reg ?_
  refine sv (r_build (vs := []) (cells := #[(.slice none 0 0), (.int .i64 0)]) I112 pl112 rfl (by kernel_rfl)) ?_
  refine s_box (v := (.agg #[(.slice none 0 0), (.int .i64 0)])) rfl hO ?_
  intro b2 w1 hz2 hl2 hO1 e1
  have hO2 : Own w1 ((b2, .cells #[(.slice none 0 0), (.int .i64 0)] 112 (0, 0)) :: L) := hO1
  refine sv (r_assign (v := .pointer _) rfl) ?_
  refine s_nil ?_
  refine c_next ?_
  refine c_ret ?_
  refine e_1 (v := .pointer _) Try.results56 rfl ?_
  rw [← Option.some.inj h]
  exact ⟨b2, none, 0, 0, [], rfl, rfl, (OwnSl.nil _ _), hO2, e1⟩
theorem c_codec_Writer_Fail (x0 : T_codec_Writer) (x1 : Int) (bP0 : Nat) (aB0 : Option Addr) (mB0 cB0 : Nat) (SB0 : Hp)  (r : T_codec_Writer) (h : F_codec_Writer_Fail x0 x1 = some r) (w : World) (L : Hp) (hm0b : x0.b.length = mB0) (hSB0 : OwnSl 5 1 aB0 mB0 cB0 (fl eB x0.b) SB0) (hO : Own w ((bP0, .cells #[(.slice aB0 mB0 cB0), (.int .i64 x0.e)] 112 (0, 0)) :: (SB0 ++ L))) :
    Calls Try.prog 74 #[(.pointer (some ⟨bP0, 0, none⟩)), (.int .i64 x1)] w fun en w' => ∃ (ra0 : Option Addr) (rm0 rc0 : Nat) (rS0 : Hp), en = .returned (.tuple #[]) ∧ r.b.length = rm0 ∧ OwnSl 5 1 ra0 rm0 rc0 (fl eB r.b) rS0 ∧ Own w' ((bP0, .cells #[(.slice ra0 rm0 rc0), (.int .i64 r.e)] 112 (0, 0)) :: (rS0 ++ L)) ∧ Ext w ((bP0, .cells #[(.slice aB0 mB0 cB0), (.int .i64 x0.e)] 112 (0, 0)) :: (SB0 ++ L)) w' ((bP0, .cells #[(.slice ra0 rm0 rc0), (.int .i64 r.e)] 112 (0, 0)) :: (rS0 ++ L)) := by
  unfold F_codec_Writer_Fail at h
  refine enter (n := 13) [(.pointer (some ⟨bP0, 0, none⟩)), (.int .i64 x1)] Try.func74 rfl rfl (Nat.le_of_ble_eq_true rfl) ?_
  refine c_seq ?_
  refine c_reg ?_
  refine sv (r_move (v := .pointer _) rfl) ?_
  refine sv (r_nilCheck rfl) ?_
  refine sv (r_fieldAddr Try.underlying112 rfl I33 (by decide) rfl) ?_
  refine s_load1 (v := .int _ _) Try.underlying33 rfl rfl (cellB (hO.get (i := 0) rfl) rfl rfl) ?_
  refine c_eql rfl rfl (fun h8 => ?_) (fun h8 => ?_)
  · replace h := iT h8 h
    refine s_nil ?_
    refine c_next ?_
    refine c_condT rfl ?_
    refine c_reg ?_
    refine sv (r_move (v := .pointer _) rfl) ?_
    refine sv (r_move (v := .int _ _) rfl) ?_
    refine sv (r_nilCheck rfl) ?_
    refine sv (r_fieldAddr Try.underlying112 rfl I33 (by decide) rfl) ?_
    refine s_store1 (v := (.int .i64 x1)) (o := 1) I33 rfl rfl rfl hO (i := 0) rfl rfl rfl ?_
    intro w1 hO1 e1
    have hO2 : Own w1 ((bP0, .cells #[(.slice aB0 mB0 cB0), (.int .i64 x1)] 112 (0, 0)) :: (SB0 ++ L)) := hO1
    refine s_nil ?_
    refine e_norm ?_
    refine e_0 Try.results74 ?_
    rw [← Option.some.inj h]
    exact ⟨aB0, mB0, cB0, SB0, rfl, hm0b, hSB0, hO2, e1⟩
  replace h := iF h8 h
  refine s_nil ?_
  refine c_next ?_
  refine c_condF rfl ?_
  refine c_skip ?_
  refine e_norm ?_
  refine e_0 Try.results74 ?_
  rw [← Option.some.inj h]
  exact ⟨aB0, mB0, cB0, SB0, rfl, hm0b, hSB0, hO, (Ext.refl _ _)⟩
theorem c_codec_Writer_add (x0 : T_codec_Writer) (x1 : (List UInt8)) (bP0 : Nat) (aB0 : Option Addr) (mB0 cB0 : Nat) (SB0 : Hp) (aP0 : Option Addr) (mP0 cP0 : Nat)  (r : T_codec_Writer) (h : F_codec_Writer_add x0 x1 = some r) (w : World) (L : Hp) (hm0b : x0.b.length = mB0) (hSB0 : OwnSl 5 1 aB0 mB0 cB0 (fl eB x0.b) SB0) (hm0p : x1.length = mP0) (hc0p : mP0 ≤ cP0) (hR0p : Rd w ((bP0, .cells #[(.slice aB0 mB0 cB0), (.int .i64 x0.e)] 112 (0, 0)) :: (SB0 ++ L)) aP0 (fl eB x1)) (hO : Own w ((bP0, .cells #[(.slice aB0 mB0 cB0), (.int .i64 x0.e)] 112 (0, 0)) :: (SB0 ++ L))) :
    Calls Try.prog 75 #[(.pointer (some ⟨bP0, 0, none⟩)), (.slice aP0 mP0 cP0)] w fun en w' => ∃ (ra0 : Option Addr) (rm0 rc0 : Nat) (rS0 : Hp), en = .returned (.tuple #[]) ∧ r.b.length = rm0 ∧ OwnSl 5 1 ra0 rm0 rc0 (fl eB r.b) rS0 ∧ Own w' ((bP0, .cells #[(.slice ra0 rm0 rc0), (.int .i64 r.e)] 112 (0, 0)) :: (rS0 ++ L)) ∧ Ext w ((bP0, .cells #[(.slice aB0 mB0 cB0), (.int .i64 x0.e)] 112 (0, 0)) :: (SB0 ++ L)) w' ((bP0, .cells #[(.slice ra0 rm0 rc0), (.int .i64 r.e)] 112 (0, 0)) :: (rS0 ++ L)) := by
  unfold F_codec_Writer_add at h
  refine enter (n := 18) [(.pointer (some ⟨bP0, 0, none⟩)), (.slice aP0 mP0 cP0)] Try.func75 rfl rfl (Nat.le_of_ble_eq_true rfl) ?_
  refine c_seq ?_
  refine c_reg ?_
  refine sv (r_move (v := .pointer _) rfl) ?_
  refine sv (r_nilCheck rfl) ?_
  refine sv (r_fieldAddr Try.underlying112 rfl I33 (by decide) rfl) ?_
  refine s_load1 (v := .int _ _) Try.underlying33 rfl rfl (cellB (hO.get (i := 0) rfl) rfl rfl) ?_
  refine c_eql rfl rfl (fun h8 => ?_) (fun h8 => ?_)
  · replace h := iT h8 h
    refine s_nil ?_
    refine c_next ?_
    refine c_condT rfl ?_
    refine c_reg ?_
    refine sv (r_move (v := .pointer _) rfl) ?_
    refine sv (r_move (v := .pointer _) rfl) ?_
    refine sv (r_nilCheck rfl) ?_
    refine sv (r_fieldAddr Try.underlying112 rfl I75 (by decide) rfl) ?_
    refine s_load1 (v := .slice _ _ _) Try.underlying75 rfl rfl (cellB (hO.get (i := 0) rfl) rfl rfl) ?_
    refine sv (r_move (v := .slice _ _ _) rfl) ?_
    obtain ⟨y15, hy15, h⟩ := bindE h
    obtain ⟨hO2, e2⟩ := hO.permE (pmC pm0)
    refine a_append (e := eB) (xs := x0.b) (ys := x1) Try.underlying75 I5 rfl (by decide) (by decide) rfl rfl hSB0 hO2 (Rd.cs (hR0p.ext e2)) eB_len eB1 hm0b hm0p hy15 ?_
    intro a15 m15 c15 S15a w1 hm15 hS15a hO1 e1
    refine sv (r_nilCheck rfl) ?_
    refine sv (r_fieldAddr Try.underlying112 rfl I75 (by decide) rfl) ?_
    obtain ⟨hO4, e4⟩ := hO1.permE (pmbA pmb0)
    refine s_store1 (v := (.slice a15 m15 c15)) (o := 0) I75 rfl rfl rfl hO4 (i := 0) rfl rfl rfl ?_
    intro w3 hO3 e3
    have hO5 : Own w3 ((bP0, .cells #[(.slice a15 m15 c15), (.int .i64 x0.e)] 112 (0, 0)) :: (S15a ++ L)) := hO3
    refine s_nil ?_
    refine e_norm ?_
    refine e_0 Try.results75 ?_
    rw [← Option.some.inj h]
    exact ⟨a15, m15, c15, S15a, rfl, hm15, hS15a, hO5, (e2.trans (e1.trans (e4.trans e3)))⟩
  replace h := iF h8 h
  refine s_nil ?_
  refine c_next ?_
  refine c_condF rfl ?_
  refine c_skip ?_
  refine e_norm ?_
  refine e_0 Try.results75 ?_
  rw [← Option.some.inj h]
  exact ⟨aB0, mB0, cB0, SB0, rfl, hm0b, hSB0, hO, (Ext.refl _ _)⟩
theorem c_codec_Writer_Number (x0 : T_codec_Writer) (x1 : Int) (bP0 : Nat) (aB0 : Option Addr) (mB0 cB0 : Nat) (SB0 : Hp)  (r : T_codec_Writer) (h : F_codec_Writer_Number x0 x1 = some r) (w : World) (L : Hp) (hm0b : x0.b.length = mB0) (hSB0 : OwnSl 5 1 aB0 mB0 cB0 (fl eB x0.b) SB0) (hO : Own w ((bP0, .cells #[(.slice aB0 mB0 cB0), (.int .i64 x0.e)] 112 (0, 0)) :: (SB0 ++ L))) :
    Calls Try.prog 57 #[(.pointer (some ⟨bP0, 0, none⟩)), (.int .i64 x1)] w fun en w' => ∃ (ra0 : Option Addr) (rm0 rc0 : Nat) (rS0 : Hp), en = .returned (.tuple #[]) ∧ r.b.length = rm0 ∧ OwnSl 5 1 ra0 rm0 rc0 (fl eB r.b) rS0 ∧ Own w' ((bP0, .cells #[(.slice ra0 rm0 rc0), (.int .i64 r.e)] 112 (0, 0)) :: (rS0 ++ L)) ∧ Ext w ((bP0, .cells #[(.slice aB0 mB0 cB0), (.int .i64 x0.e)] 112 (0, 0)) :: (SB0 ++ L)) w' ((bP0, .cells #[(.slice ra0 rm0 rc0), (.int .i64 r.e)] 112 (0, 0)) :: (rS0 ++ L)) := by
  unfold F_codec_Writer_Number at h
  refine enter (n := 28) [(.pointer (some ⟨bP0, 0, none⟩)), (.int .i64 x1)] Try.func57 rfl rfl (Nat.le_of_ble_eq_true rfl) ?_
  refine c_seq ?_
  obtain ⟨oc7, G7, hG7, h, hr7⟩ := bindG h
  refine c_cutL hO (fun Lc f0 g w' => ∃ (xc1_t9 : Bool), (G7 xc1_t9 = some r) ∧ g 0 = (.pointer (some ⟨bP0, 0, none⟩)) ∧ g 1 = (.int .i64 x1) ∧ g 9 = (.bool xc1_t9) ∧ Own w' (SB0 ++ ((bP0, .cells #[(.slice aB0 mB0 cB0), (.int .i64 x0.e)] 112 (0, 0)) :: L)) ∧ Ext w Lc w' (SB0 ++ ((bP0, .cells #[(.slice aB0 mB0 cB0), (.int .i64 x0.e)] 112 (0, 0)) :: L))) ?_ ?_
  · skip
    refine c_reg ?_
    refine sv (r_move (v := .int _ _) rfl) ?_
    refine c_lss rfl rfl (fun h5 => ?_) (fun h5 => ?_)
    · replace h := iT h5 h
      refine sv (r_move (v := .bool true) rfl) ?_
      refine g_skip 6 (by rfl) rfl (by rfl) ?_
      refine g_skip 6 (by rfl) rfl (by rfl) ?_
      refine sv (r_pickT (v := .bool true) rfl rfl) ?_
      refine s_nil ?_
      refine c_next ?_
      rw [← Option.some.inj h] at hr7
      obtain ⟨hO8, e8⟩ := hO.permE (pmC pm0)
      exact ⟨_, rfl, true, hr7, rfl, rfl, rfl, hO8, e8⟩
    replace h := iF (Int.not_lt.2 h5) h
    refine sv (r_move (v := .bool false) rfl) ?_
    refine g_do 6 (by rfl) rfl ?_
    refine sv (r_move (v := .int _ _) rfl) ?_
    refine g_do 6 (by rfl) rfl ?_
    refine c_gtr rfl rfl (fun h8 => ?_) (fun h8 => ?_)
    · replace h := iT h8 h
      refine sv (r_pickF (v := .bool true) rfl rfl) ?_
      refine s_nil ?_
      refine c_next ?_
      rw [← Option.some.inj h] at hr7
      obtain ⟨hO9, e9⟩ := hO.permE (pmC pm0)
      exact ⟨_, rfl, true, hr7, rfl, rfl, rfl, hO9, e9⟩
    replace h := iF (Int.not_lt.2 h8) h
    refine sv (r_pickF (v := .bool false) rfl rfl) ?_
    refine s_nil ?_
    refine c_next ?_
    rw [← Option.some.inj h] at hr7
    obtain ⟨hO10, e10⟩ := hO.permE (pmC pm0)
    exact ⟨_, rfl, false, hr7, rfl, rfl, rfl, hO10, e10⟩
  intro gg7 w7 hI7
  clear h hr7
  obtain ⟨xc1_t9, h, hsc1_0, hsc1_1, hsc1_9, hO7, e7⟩ := hI7
  replace h := hG_ hG7 h; clear hG7
  obtain ⟨qq7, rfl⟩ := fr3 hsc1_0 hsc1_1 hsc1_9
  clear hsc1_0 hsc1_1 hsc1_9
  rcases Bool.eq_false_or_eq_true (xc1_t9) with hb11 | hb11
  · replace h := iT hb11 h
    refine c_condT (congrArg Value.bool hb11) ?_
    refine c_seq ?_
    refine c_reg ?_
    refine sv (r_move (v := .pointer _) rfl) ?_
    obtain ⟨hO14, e14⟩ := hO7.permE (pmbA pmb0)
    obtain ⟨y11, hy11, h⟩ := bindE h
    refine s_call cf74 rfl (c_codec_Writer_Fail x0 1 bP0 aB0 mB0 cB0 SB0 _ hy11 _ _ hm0b hSB0 hO14) ?_
    rintro er11 w15 ⟨a11_0, m11_0, c11_0, S11_0, rfl, hm11_0, hS11_0, hO15, e15⟩
    refine ⟨_, rfl, ?_⟩
    refine s_nil ?_
    refine c_next ?_
    refine c_ret ?_
    refine r_then ?_
    refine e_0 Try.results57 ?_
    rw [← Option.some.inj h]
    exact ⟨a11_0, m11_0, c11_0, S11_0, rfl, hm11_0, hS11_0, hO15, (e7.trans (e14.trans e15))⟩
  replace h := iF (nt hb11) h
  refine c_condF (congrArg Value.bool hb11) ?_
  refine c_skip ?_
  refine c_next ?_
  refine c_seq ?_
  refine c_block ?_
  obtain ⟨kl24, hkl24⟩ := loop_iff.1 h
  clear h
  refine c_loopL hO7 (fun Lc f0 m g wl => ∃ (xl2_t1 : Int) (xl2_bP0 : T_codec_Writer) (al2_0 : Option Addr) (ml2_0 cl2_0 : Nat) (Sl2_0 : Hp), (iterK codec_Writer_Number_l2 m (xl2_t1, xl2_bP0) = some r) ∧ g 0 = (.pointer (some ⟨bP0, 0, none⟩)) ∧ g 1 = (.int .i64 xl2_t1) ∧ xl2_bP0.b.length = ml2_0 ∧ OwnSl 5 1 al2_0 ml2_0 cl2_0 (fl eB xl2_bP0.b) Sl2_0 ∧ Own wl (Sl2_0 ++ ((bP0, .cells #[(.slice al2_0 ml2_0 cl2_0), (.int .i64 xl2_bP0.e)] 112 (0, 0)) :: L)) ∧ Ext w7 Lc wl (Sl2_0 ++ ((bP0, .cells #[(.slice al2_0 ml2_0 cl2_0), (.int .i64 xl2_bP0.e)] 112 (0, 0)) :: L))) kl24 ?_ ?_
  · skip
    exact ⟨x1, x0, aB0, mB0, cB0, SB0, hkl24, rfl, rfl, hm0b, hSB0, hO7, (Ext.refl _ _)⟩
  clear hkl24
  intro mm24 gg24 w24 hI24
  obtain ⟨xl2_t1, xl2_bP0, al2_0, ml2_0, cl2_0, Sl2_0, hkl24, hsl2_0, hsl2_1, hml2_0, hSl2_0, hO24, e24⟩ := hI24
  obtain ⟨kl24, yl24, rfl, h, hyl24⟩ := iterE hkl24
  clear hkl24
  obtain ⟨qq24, rfl⟩ := fr2 hsl2_0 hsl2_1
  clear hsl2_0 hsl2_1
  refine c_seq ?_
  refine c_seq ?_
  refine c_reg ?_
  refine sv (r_move (v := .int _ _) rfl) ?_
  refine c_geq rfl rfl (fun h13 => ?_) (fun h13 => ?_)
  · replace h := iT h13 h
    refine s_nil ?_
    refine c_next ?_
    refine c_condT rfl ?_
    refine c_skip ?_
    refine c_next ?_
    refine c_block ?_
    refine c_seq ?_
    refine c_reg ?_
    refine sv (r_move (v := .pointer _) rfl) ?_
    refine sv (r_move (v := .int _ _) rfl) ?_
    refine sv (r_remI (a := xl2_t1) (b := 128) rfl rfl (by decide)) ?_
    refine sv (r_cvI8 (a := ((Int.tmod xl2_t1 128))) Try.underlying3 Try.underlying5 rfl) ?_
    refine sv (r_add8 ((UInt8.ofInt ((Int.tmod xl2_t1 128)))) (128 : UInt8) rfl rfl) ?_
    refine a_lit (en := eB) (xs := [(((UInt8.ofInt ((Int.tmod xl2_t1 128)))) + (128 : UInt8))]) (vs := [(.int .u8 (((((UInt8.ofInt ((Int.tmod xl2_t1 128)))) + (128 : UInt8)) : UInt8).toNat : Int))]) Try.underlying75 I5 hO24 rfl rfl (by simp [Value.cells]) (by decide) rfl eB_len rfl (by decide) ?_
    intro a19 m19 c19 S19 w29 hm19 hS19 hO29 e29
    have hR30 := (hS19.drop hO29).2.2
    obtain ⟨hO30, e30⟩ := hO29.dropS
    obtain ⟨hO31, e31⟩ := hO30.permE (pmbA pmb0)
    obtain ⟨y20, hy20, h⟩ := bindE h
    refine s_call cf75 rfl (c_codec_Writer_add xl2_bP0 [(((UInt8.ofInt ((Int.tmod xl2_t1 128)))) + (128 : UInt8))] bP0 al2_0 ml2_0 cl2_0 Sl2_0 a19 m19 c19 _ hy20 _ _ hml2_0 hSl2_0 hm19 hS19.le.1 (hR30.ext e31) hO31) ?_
    rintro er20 w32 ⟨a20_0, m20_0, c20_0, S20_0, rfl, hm20_0, hS20_0, hO32, e32⟩
    refine ⟨_, rfl, ?_⟩
    refine s_nil ?_
    refine c_next ?_
    refine c_reg ?_
    refine sv (r_move (v := .int _ _) rfl) ?_
    refine sv (r_quoI (a := xl2_t1) (b := 128) rfl rfl (by decide)) ?_
    refine sv (r_assign (v := .int _ _) rfl) ?_
    refine s_nil ?_
    refine x_norm ?_
    refine l_end (m' := kl24) (Nat.lt_succ_self _) ?_
    rw [← Option.some.inj h] at hyl24
    obtain ⟨hO33, e33⟩ := hO32.permE (pmC pm0)
    exact ⟨(w64 (Int.tdiv xl2_t1 128)), y20, a20_0, m20_0, c20_0, S20_0, hyl24, rfl, rfl, hm20_0, hS20_0, hO33, (e24.trans (e29.trans (e30.trans (e31.trans (e32.trans e33)))))⟩
  replace h := iF (Int.not_le.2 h13) h
  refine s_nil ?_
  refine c_next ?_
  refine c_condF rfl ?_
  refine c_exit ?_
  refine x_then ?_
  refine x_then ?_
  refine x_same ?_
  replace h := crossE h hyl24
  refine c_next ?_
  refine c_reg ?_
  refine sv (r_move (v := .pointer _) rfl) ?_
  refine sv (r_move (v := .int _ _) rfl) ?_
  refine sv (r_cvI8 (a := xl2_t1) Try.underlying3 Try.underlying5 rfl) ?_
  refine a_lit (en := eB) (xs := [(UInt8.ofInt xl2_t1)]) (vs := [(.int .u8 (((UInt8.ofInt xl2_t1) : UInt8).toNat : Int))]) Try.underlying75 I5 hO24 rfl rfl (by simp [Value.cells]) (by decide) rfl eB_len rfl (by decide) ?_
  intro a26 m26 c26 S26 w34 hm26 hS26 hO34 e34
  have hR35 := (hS26.drop hO34).2.2
  obtain ⟨hO35, e35⟩ := hO34.dropS
  obtain ⟨hO36, e36⟩ := hO35.permE (pmbA pmb0)
  obtain ⟨y27, hy27, h⟩ := bindE h
  refine s_call cf75 rfl (c_codec_Writer_add xl2_bP0 [(UInt8.ofInt xl2_t1)] bP0 al2_0 ml2_0 cl2_0 Sl2_0 a26 m26 c26 _ hy27 _ _ hml2_0 hSl2_0 hm26 hS26.le.1 (hR35.ext e36) hO36) ?_
  rintro er27 w37 ⟨a27_0, m27_0, c27_0, S27_0, rfl, hm27_0, hS27_0, hO37, e37⟩
  refine ⟨_, rfl, ?_⟩
  refine s_nil ?_
  refine e_norm ?_
  refine e_0 Try.results57 ?_
  rw [← Option.some.inj h]
  exact ⟨a27_0, m27_0, c27_0, S27_0, rfl, hm27_0, hS27_0, hO37, (e7.trans (e24.trans (e34.trans (e35.trans (e36.trans e37)))))⟩
theorem c_codec_Writer_Signed (x0 : T_codec_Writer) (x1 : Int) (bP0 : Nat) (aB0 : Option Addr) (mB0 cB0 : Nat) (SB0 : Hp)  (r : T_codec_Writer) (h : F_codec_Writer_Signed x0 x1 = some r) (w : World) (L : Hp) (hm0b : x0.b.length = mB0) (hSB0 : OwnSl 5 1 aB0 mB0 cB0 (fl eB x0.b) SB0) (hO : Own w ((bP0, .cells #[(.slice aB0 mB0 cB0), (.int .i64 x0.e)] 112 (0, 0)) :: (SB0 ++ L))) :
    Calls Try.prog 58 #[(.pointer (some ⟨bP0, 0, none⟩)), (.int .i64 x1)] w fun en w' => ∃ (ra0 : Option Addr) (rm0 rc0 : Nat) (rS0 : Hp), en = .returned (.tuple #[]) ∧ r.b.length = rm0 ∧ OwnSl 5 1 ra0 rm0 rc0 (fl eB r.b) rS0 ∧ Own w' ((bP0, .cells #[(.slice ra0 rm0 rc0), (.int .i64 r.e)] 112 (0, 0)) :: (rS0 ++ L)) ∧ Ext w ((bP0, .cells #[(.slice aB0 mB0 cB0), (.int .i64 x0.e)] 112 (0, 0)) :: (SB0 ++ L)) w' ((bP0, .cells #[(.slice ra0 rm0 rc0), (.int .i64 r.e)] 112 (0, 0)) :: (rS0 ++ L)) := by
  unfold F_codec_Writer_Signed at h
  refine enter (n := 25) [(.pointer (some ⟨bP0, 0, none⟩)), (.int .i64 x1)] Try.func58 rfl rfl (Nat.le_of_ble_eq_true rfl) ?_
  refine c_block ?_
  obtain ⟨oc1, G1, hG1, h, hr1⟩ := bindG h
  refine c_cutL hO (fun Lc f0 g w' => ∃ (xc1_t8 : Bool), (G1 xc1_t8 = some r) ∧ g 0 = (.pointer (some ⟨bP0, 0, none⟩)) ∧ g 1 = (.int .i64 x1) ∧ g 8 = (.bool xc1_t8) ∧ Own w' (SB0 ++ ((bP0, .cells #[(.slice aB0 mB0 cB0), (.int .i64 x0.e)] 112 (0, 0)) :: L)) ∧ Ext w Lc w' (SB0 ++ ((bP0, .cells #[(.slice aB0 mB0 cB0), (.int .i64 x0.e)] 112 (0, 0)) :: L))) ?_ ?_
  · skip
    refine c_reg ?_
    refine sv (r_move (v := .int _ _) rfl) ?_
    refine c_lss rfl rfl (fun h10 => ?_) (fun h10 => ?_)
    · replace h := iT h10 h
      refine sv (r_move (v := .bool true) rfl) ?_
      refine g_skip 11 (by rfl) rfl (by rfl) ?_
      refine g_skip 11 (by rfl) rfl (by rfl) ?_
      refine sv (r_pickT (v := .bool true) rfl rfl) ?_
      refine sv (r_assign (v := .bool true) rfl) ?_
      refine s_nil ?_
      refine c_next ?_
      rw [← Option.some.inj h] at hr1
      obtain ⟨hO2, e2⟩ := hO.permE (pmC pm0)
      exact ⟨_, rfl, true, hr1, rfl, rfl, rfl, hO2, e2⟩
    replace h := iF (Int.not_lt.2 h10) h
    refine sv (r_move (v := .bool false) rfl) ?_
    refine g_do 11 (by rfl) rfl ?_
    refine sv (r_move (v := .int _ _) rfl) ?_
    refine g_do 11 (by rfl) rfl ?_
    refine c_geq rfl rfl (fun h13 => ?_) (fun h13 => ?_)
    · replace h := iT h13 h
      refine sv (r_pickF (v := .bool true) rfl rfl) ?_
      refine sv (r_assign (v := .bool true) rfl) ?_
      refine s_nil ?_
      refine c_next ?_
      rw [← Option.some.inj h] at hr1
      obtain ⟨hO3, e3⟩ := hO.permE (pmC pm0)
      exact ⟨_, rfl, true, hr1, rfl, rfl, rfl, hO3, e3⟩
    replace h := iF (Int.not_le.2 h13) h
    refine sv (r_pickF (v := .bool false) rfl rfl) ?_
    refine sv (r_assign (v := .bool false) rfl) ?_
    refine s_nil ?_
    refine c_next ?_
    rw [← Option.some.inj h] at hr1
    obtain ⟨hO4, e4⟩ := hO.permE (pmC pm0)
    exact ⟨_, rfl, false, hr1, rfl, rfl, rfl, hO4, e4⟩
  intro gg1 w1 hI1
  clear h hr1
  obtain ⟨xc1_t8, h, hsc1_0, hsc1_1, hsc1_8, hO1, e1⟩ := hI1
  replace h := hG_ hG1 h; clear hG1
  obtain ⟨qq1, rfl⟩ := fr3 hsc1_0 hsc1_1 hsc1_8
  clear hsc1_0 hsc1_1 hsc1_8
  rcases Bool.eq_false_or_eq_true (xc1_t8) with hb5 | hb5
  · replace h := iT hb5 h
    refine c_condT (congrArg Value.bool hb5) ?_
    refine c_reg ?_
    refine sv (r_move (v := .pointer _) rfl) ?_
    obtain ⟨hO6, e6⟩ := hO1.permE (pmbA pmb0)
    obtain ⟨y16, hy16, h⟩ := bindE h
    refine s_call cf74 rfl (c_codec_Writer_Fail x0 1 bP0 aB0 mB0 cB0 SB0 _ hy16 _ _ hm0b hSB0 hO6) ?_
    rintro er16 w7 ⟨a16_0, m16_0, c16_0, S16_0, rfl, hm16_0, hS16_0, hO7, e7⟩
    refine ⟨_, rfl, ?_⟩
    refine s_nil ?_
    refine x_norm ?_
    refine e_norm ?_
    refine e_0 Try.results58 ?_
    rw [← Option.some.inj h]
    exact ⟨a16_0, m16_0, c16_0, S16_0, rfl, hm16_0, hS16_0, hO7, (e1.trans (e6.trans e7))⟩
  replace h := iF (nt hb5) h
  refine c_condF (congrArg Value.bool hb5) ?_
  refine c_seq ?_
  refine c_reg ?_
  refine sv (r_move (v := .int _ _) rfl) ?_
  refine c_lss rfl rfl (fun h19 => ?_) (fun h19 => ?_)
  · replace h := iT h19 h
    refine sv (r_assign (v := .bool true) rfl) ?_
    refine s_nil ?_
    refine c_next ?_
    refine c_condT rfl ?_
    refine c_reg ?_
    refine sv (r_move (v := .pointer _) rfl) ?_
    refine sv (r_move (v := .int _ _) rfl) ?_
    refine sv (r_mulI (a := 2) (b := x1) rfl rfl) ?_
    refine sv (r_subI (a := ((-1))) (b := ((w64 (2 * x1)))) rfl rfl) ?_
    obtain ⟨hO8, e8⟩ := hO1.permE (pmbA pmb0)
    obtain ⟨y24, hy24, h⟩ := bindE h
    refine s_call cf57 rfl (c_codec_Writer_Number x0 (w64 (((-1)) - ((w64 (2 * x1))))) bP0 aB0 mB0 cB0 SB0 _ hy24 _ _ hm0b hSB0 hO8) ?_
    rintro er24 w9 ⟨a24_0, m24_0, c24_0, S24_0, rfl, hm24_0, hS24_0, hO9, e9⟩
    refine ⟨_, rfl, ?_⟩
    refine s_nil ?_
    refine x_norm ?_
    refine e_norm ?_
    refine e_0 Try.results58 ?_
    rw [← Option.some.inj h]
    exact ⟨a24_0, m24_0, c24_0, S24_0, rfl, hm24_0, hS24_0, hO9, (e1.trans (e8.trans e9))⟩
  replace h := iF (Int.not_lt.2 h19) h
  refine sv (r_assign (v := .bool false) rfl) ?_
  refine s_nil ?_
  refine c_next ?_
  refine c_condF rfl ?_
  refine c_reg ?_
  refine sv (r_move (v := .pointer _) rfl) ?_
  refine sv (r_move (v := .int _ _) rfl) ?_
  refine sv (r_mulI (a := 2) (b := x1) rfl rfl) ?_
  obtain ⟨hO10, e10⟩ := hO1.permE (pmbA pmb0)
  obtain ⟨y7, hy7, h⟩ := bindE h
  refine s_call cf57 rfl (c_codec_Writer_Number x0 (w64 (2 * x1)) bP0 aB0 mB0 cB0 SB0 _ hy7 _ _ hm0b hSB0 hO10) ?_
  rintro er7 w11 ⟨a7_0, m7_0, c7_0, S7_0, rfl, hm7_0, hS7_0, hO11, e11⟩
  refine ⟨_, rfl, ?_⟩
  refine s_nil ?_
  refine x_norm ?_
  refine e_norm ?_
  refine e_0 Try.results58 ?_
  rw [← Option.some.inj h]
  exact ⟨a7_0, m7_0, c7_0, S7_0, rfl, hm7_0, hS7_0, hO11, (e1.trans (e10.trans e11))⟩
theorem c_codec_Writer_Bytes (x0 : T_codec_Writer) (bP0 : Nat) (aB0 : Option Addr) (mB0 cB0 : Nat)  (r : (T_codec_Writer × (List UInt8) × Int)) (h : F_codec_Writer_Bytes x0 = some r) (w : World) (L : Hp) (hm0b : x0.b.length = mB0) (hc0b : mB0 ≤ cB0) (hR0b : Rd w ((bP0, .cells #[(.slice aB0 mB0 cB0), (.int .i64 x0.e)] 112 (0, 0)) :: L) aB0 (fl eB x0.b)) (hO : Own w ((bP0, .cells #[(.slice aB0 mB0 cB0), (.int .i64 x0.e)] 112 (0, 0)) :: L)) :
    Calls Try.prog 59 #[(.pointer (some ⟨bP0, 0, none⟩))] w fun en w' => ∃ (ra0 : Option Addr) (rm0 rc0 : Nat) (ra1 : Option Addr) (rm1 rc1 : Nat) (rS1 : Hp), en = .returned (.tuple #[(.slice ra1 rm1 rc1), (.int .i64 r.2.2)]) ∧ r.1.b.length = rm0 ∧ rm0 ≤ rc0 ∧ Rd w' ((bP0, .cells #[(.slice ra0 rm0 rc0), (.int .i64 r.1.e)] 112 (0, 0)) :: (rS1 ++ L)) ra0 (fl eB r.1.b) ∧ r.2.1.length = rm1 ∧ OwnSl 5 1 ra1 rm1 rc1 (fl eB r.2.1) rS1 ∧ Own w' ((bP0, .cells #[(.slice ra0 rm0 rc0), (.int .i64 r.1.e)] 112 (0, 0)) :: (rS1 ++ L)) ∧ Ext w ((bP0, .cells #[(.slice aB0 mB0 cB0), (.int .i64 x0.e)] 112 (0, 0)) :: L) w' ((bP0, .cells #[(.slice ra0 rm0 rc0), (.int .i64 r.1.e)] 112 (0, 0)) :: (rS1 ++ L)) := by
  unfold F_codec_Writer_Bytes at h
  refine enter (n := 19) [(.pointer (some ⟨bP0, 0, none⟩))] Try.func59 rfl rfl (Nat.le_of_ble_eq_true rfl) ?_
  refine c_seq ?_
  refine c_reg ?_
  refine sv (r_assign (v := .slice _ _ _) rfl) ?_
  refine sv (r_assign (v := .int _ _) rfl) ?_
  refine s_nil ?_
  refine c_next ?_
  refine c_seq ?_
  refine c_seq ?_
  refine c_reg ?_
  refine sv (r_move (v := .pointer _) rfl) ?_
  refine sv (r_nilCheck rfl) ?_
  refine sv (r_fieldAddr Try.underlying112 rfl I33 (by decide) rfl) ?_
  refine s_load1 (v := .int _ _) Try.underlying33 rfl rfl (cellB (hO.get (i := 0) rfl) rfl rfl) ?_
  refine c_neq rfl rfl (fun h8 => ?_) (fun h8 => ?_)
  · replace h := iT h8 h
    refine s_nil ?_
    refine c_next ?_
    refine c_condT rfl ?_
    refine c_seq ?_
    refine d_startL hO hO 5 (by kernel_rfl) (pk_then (pk_then pk_body)) ?_
    intro hP6 wd6 hK6 hO5 e5
    refine dT (i := 0) (listed' := #[I_,O_,O_,O_,O_,O_]) rfl hP6 hK6 (fun wS hS => (r_move (v := .pointer _) rfl)) ?_
    refine dT (i := 1) (listed' := #[I_,I_,O_,O_,O_,O_]) rfl hP6 hK6 (fun wS hS => (r_nilCheck rfl)) ?_
    refine dT (i := 2) (listed' := #[I_,I_,I_,O_,O_,O_]) rfl hP6 hK6 (fun wS hS => (r_fieldAddr Try.underlying112 rfl I33 (by decide) rfl)) ?_
    refine dT (i := 3) (listed' := #[I_,I_,I_,I_,O_,O_]) rfl hP6 hK6 (fun wS hS => (r_load1 (v := .int _ _) Try.underlying33 rfl rfl (cellB (hS.own.get (i := 0) rfl) rfl rfl))) ?_
    refine dT (i := 4) (listed' := #[I_,I_,I_,I_,I_,O_]) rfl hP6 hK6 (fun wS hS => (r_assign (v := .slice _ _ _) rfl)) ?_
    refine d1 (i := 5) (listed' := #[I_,I_,I_,I_,I_,I_]) ?_
    refine sv (r_assign (v := .int _ _) rfl) ?_
    refine d_tail rfl ?_
    refine d_done (by kernel_rfl) ?_
    refine c_next ?_
    refine c_ret ?_
    refine r_then ?_
    refine e_2 (v := .slice _ _ _) (v' := .int _ _) Try.results59 rfl rfl ?_
    rw [← Option.some.inj h]
    exact ⟨aB0, mB0, cB0, none, 0, 0, [], rfl, hm0b, hc0b, (hR0b.ext e5), rfl, (OwnSl.nil _ _), hO5, e5⟩
  replace h := iF (Classical.not_not.2 h8) h
  refine s_nil ?_
  refine c_next ?_
  refine c_condF rfl ?_
  refine c_skip ?_
  refine c_next ?_
  refine c_seq ?_
  refine c_reg ?_
  refine a_lit (en := eB) (xs := []) (vs := []) Try.underlying75 I5 hO rfl rfl (by simp [Value.cells]) (by decide) rfl eB_len rfl (by decide) ?_
  intro a13 m13 c13 S13 w7 hm13 hS13 hO7 e7
  refine sv (r_move (v := .pointer _) rfl) ?_
  refine sv (r_nilCheck rfl) ?_
  refine sv (r_fieldAddr Try.underlying112 rfl I75 (by decide) rfl) ?_
  refine s_load1 (v := .slice _ _ _) Try.underlying75 rfl rfl (cellB ((hO7.perm (pmbA pmb0)).get (i := 0) rfl) rfl rfl) ?_
  obtain ⟨y18, hy18, h⟩ := bindE h
  refine a_append (e := eB) (xs := []) (ys := x0.b) Try.underlying75 I5 rfl (by decide) (by decide) rfl rfl hS13 hO7 (Rd.cs (hR0b.ext e7)) eB_len eB1 hm13 hm0b hy18 ?_
  intro a18 m18 c18 S18a w8 hm18 hS18a hO8 e8
  refine sv (r_assign (v := .slice _ _ _) rfl) ?_
  refine sv (r_assign (v := .int _ _) rfl) ?_
  refine s_nil ?_
  refine c_next ?_
  refine c_ret ?_
  refine e_2 (v := .slice _ _ _) (v' := .int _ _) Try.results59 rfl rfl ?_
  obtain ⟨hO9, e9⟩ := hO8.permE (pmbA pmb0)
  rw [← Option.some.inj h]
  exact ⟨aB0, mB0, cB0, a18, m18, c18, S18a, rfl, hm0b, hc0b, (hR0b.ext (e7.trans (e8.trans e9))), hm18, hS18a, hO9, (e7.trans (e8.trans e9))⟩
theorem c_opcode_Op (x0 : T_claim_Op)   (r : ((List UInt8) × Int)) (h : F_opcode_Op x0 = some r) (w : World) (L : Hp)  (hO : Own w L) :
    Calls Try.prog 41 #[(.agg #[(.int .i64 x0.Kind), (.int .i64 x0.Device), (.int .i64 x0.Request), (.int .i64 x0.Ticket), (.int .i64 x0.For), (.int .i64 x0.Until), (.int .i64 x0.Now)])] w fun en w' => ∃ (ra0 : Option Addr) (rm0 rc0 : Nat) (rS0 : Hp), en = .returned (.tuple #[(.slice ra0 rm0 rc0), (.int .i64 r.2)]) ∧ r.1.length = rm0 ∧ OwnSl 5 1 ra0 rm0 rc0 (fl eB r.1) rS0 ∧ Own w' (rS0 ++ L) ∧ Ext w L w' (rS0 ++ L) := by
  unfold F_opcode_Op at h
  refine enter (n := 62) [(.agg #[(.int .i64 x0.Kind), (.int .i64 x0.Device), (.int .i64 x0.Request), (.int .i64 x0.Ticket), (.int .i64 x0.For), (.int .i64 x0.Until), (.int .i64 x0.Now)])] Try.func41 rfl rfl (Nat.le_of_ble_eq_true rfl) ?_
  refine c_seq ?_
  refine c_reg ?_
  refine s_box (v := (.agg #[(.int .i64 x0.Kind), (.int .i64 x0.Device), (.int .i64 x0.Request), (.int .i64 x0.Ticket), (.int .i64 x0.For), (.int .i64 x0.Until), (.int .i64 x0.Now)])) rfl hO ?_
  intro b1 w2 hz1 hl1 hO2 e2
  have hO3 : Own w2 ((b1, .cells #[(.int .i64 x0.Kind), (.int .i64 x0.Device), (.int .i64 x0.Request), (.int .i64 x0.Ticket), (.int .i64 x0.For), (.int .i64 x0.Until), (.int .i64 x0.Now)] 37 (0, 0)) :: L) := hO2
  refine sv (r_assign (v := .slice _ _ _) rfl) ?_
  refine sv (r_assign (v := .int _ _) rfl) ?_
  refine s_nil ?_
  refine c_next ?_
  refine c_seq ?_
  refine c_seq ?_
  refine c_reg ?_
  refine s_loadAll Try.underlying37 rfl I37 rfl (hO3.get (i := 0) rfl) rfl rfl ?_
  obtain ⟨y6, hy6, h⟩ := bindE h
  refine s_call cf55 rfl (c_opcode_told x0 _ hy6 _ _ hO3) ?_
  rintro er6 w8 ⟨rfl, hO8, e8⟩
  refine ⟨_, rfl, ?_⟩
  refine sv (r_not (b := y6) rfl) ?_
  refine s_nil ?_
  refine c_next ?_
  rcases Bool.eq_false_or_eq_true (y6) with hb9 | hb9
  · replace h := iT hb9 h
    refine c_condF (congrArg Value.bool (nnt hb9)) ?_
    refine c_skip ?_
    refine c_next ?_
    refine c_seq ?_
    refine c_reg ?_
    obtain ⟨y8, hy8, h⟩ := bindE h
    refine s_call cf56 rfl (c_codec_NewWriter _ hy8 _ _ hO8) ?_
    rintro er8 w11 ⟨b8_0, a8_0, m8_0, c8_0, S8_0, rfl, hm8_0, hS8_0, hO11, e11⟩
    refine ⟨_, rfl, ?_⟩
    refine sv (r_assign (v := .pointer _) rfl) ?_
    refine s_nil ?_
    refine c_next ?_
    refine c_seq ?_
    refine c_reg ?_
    refine sv (r_move (v := .pointer _) rfl) ?_
    refine sv (r_fieldAddr Try.underlying37 rfl I3 (by decide) rfl) ?_
    refine s_load1 (v := .int _ _) Try.underlying3 rfl rfl (cellB ((hO11.perm (pmbC (pmbA pmb0))).get (i := 0) rfl) rfl rfl) ?_
    obtain ⟨hO15, e15⟩ := hO11.permE (pmC pm0)
    obtain ⟨hO16, e16⟩ := hO15.permE (pmbA pmb0)
    obtain ⟨y12, hy12, h⟩ := bindE h
    refine s_call cf57 rfl (c_codec_Writer_Number y8 x0.Kind b8_0 a8_0 m8_0 c8_0 S8_0 _ hy12 _ _ hm8_0 hS8_0 hO16) ?_
    rintro er12 w17 ⟨a12_0, m12_0, c12_0, S12_0, rfl, hm12_0, hS12_0, hO17, e17⟩
    refine ⟨_, rfl, ?_⟩
    refine s_nil ?_
    refine c_next ?_
    obtain ⟨oc24, G24, hG24, h, hr24⟩ := bindG h
    refine c_cutL hO17 (fun Lc f0 g w' => ∃ (xc1_b8_0 : T_codec_Writer) (ac1_0 : Option Addr) (mc1_0 cc1_0 : Nat) (Sc1_0 : Hp), (G24 xc1_b8_0 = some r) ∧ g 1 = (.pointer (some ⟨b1, 0, none⟩)) ∧ g 4 = (.pointer (some ⟨b8_0, 0, none⟩)) ∧ xc1_b8_0.b.length = mc1_0 ∧ OwnSl 5 1 ac1_0 mc1_0 cc1_0 (fl eB xc1_b8_0.b) Sc1_0 ∧ Own w' (Sc1_0 ++ ((b1, .cells #[(.int .i64 x0.Kind), (.int .i64 x0.Device), (.int .i64 x0.Request), (.int .i64 x0.Ticket), (.int .i64 x0.For), (.int .i64 x0.Until), (.int .i64 x0.Now)] 37 (0, 0)) :: ((b8_0, .cells #[(.slice ac1_0 mc1_0 cc1_0), (.int .i64 xc1_b8_0.e)] 112 (0, 0)) :: L))) ∧ Ext w17 Lc w' (Sc1_0 ++ ((b1, .cells #[(.int .i64 x0.Kind), (.int .i64 x0.Device), (.int .i64 x0.Request), (.int .i64 x0.Ticket), (.int .i64 x0.For), (.int .i64 x0.Until), (.int .i64 x0.Now)] 37 (0, 0)) :: ((b8_0, .cells #[(.slice ac1_0 mc1_0 cc1_0), (.int .i64 xc1_b8_0.e)] 112 (0, 0)) :: L)))) ?_ ?_
    · skip
      refine c_seq ?_
      refine c_reg ?_
      refine sv (r_fieldAddr Try.underlying37 rfl I3 (by decide) rfl) ?_
      refine s_load1 (v := .int _ _) Try.underlying3 rfl rfl (cellB ((hO17.perm (pmbC (pmbA pmb0))).get (i := 0) rfl) rfl rfl) ?_
      refine c_neq rfl rfl (fun h15 => ?_) (fun h15 => ?_)
      · replace h := iT h15 h
        refine s_nil ?_
        refine c_next ?_
        refine c_condT rfl ?_
        refine c_reg ?_
        refine sv (r_move (v := .pointer _) rfl) ?_
        refine sv (r_fieldAddr Try.underlying37 rfl I3 (by decide) rfl) ?_
        refine s_load1 (v := .int _ _) Try.underlying3 rfl rfl (cellB ((hO17.perm (pmbC (pmbA pmb0))).get (i := 0) rfl) rfl rfl) ?_
        obtain ⟨hO25, e25⟩ := hO17.permE (pmC pm0)
        obtain ⟨hO26, e26⟩ := hO25.permE (pmbA pmb0)
        obtain ⟨y19, hy19, h⟩ := bindE h
        refine s_call cf57 rfl (c_codec_Writer_Number y12 x0.Device b8_0 a12_0 m12_0 c12_0 S12_0 _ hy19 _ _ hm12_0 hS12_0 hO26) ?_
        rintro er19 w27 ⟨a19_0, m19_0, c19_0, S19_0, rfl, hm19_0, hS19_0, hO27, e27⟩
        refine ⟨_, rfl, ?_⟩
        refine s_nil ?_
        refine c_next ?_
        rw [← Option.some.inj h] at hr24
        obtain ⟨hO28, e28⟩ := hO27.permE (pmbC (pmbA pmb0))
        obtain ⟨hO29, e29⟩ := hO28.permE (pmC (pmC pm0))
        exact ⟨_, rfl, y19, a19_0, m19_0, c19_0, S19_0, hr24, rfl, rfl, hm19_0, hS19_0, hO29, (e25.trans (e26.trans (e27.trans (e28.trans e29))))⟩
      replace h := iF (Classical.not_not.2 h15) h
      refine s_nil ?_
      refine c_next ?_
      refine c_condF rfl ?_
      refine c_skip ?_
      refine c_next ?_
      rw [← Option.some.inj h] at hr24
      obtain ⟨hO30, e30⟩ := hO17.permE (pmbC (pmbA pmb0))
      obtain ⟨hO31, e31⟩ := hO30.permE (pmC (pmC pm0))
      exact ⟨_, rfl, y12, a12_0, m12_0, c12_0, S12_0, hr24, rfl, rfl, hm12_0, hS12_0, hO31, (e30.trans e31)⟩
    intro gg24 w24 hI24
    clear h hr24
    obtain ⟨xc1_b8_0, ac1_0, mc1_0, cc1_0, Sc1_0, h, hsc1_1, hsc1_4, hmc1_0, hSc1_0, hO24, e24⟩ := hI24
    replace h := hG_ hG24 h; clear hG24
    obtain ⟨qq24, rfl⟩ := fr2 hsc1_1 hsc1_4
    clear hsc1_1 hsc1_4
    obtain ⟨oc36, G36, hG36, h, hr36⟩ := bindG h
    refine c_cutL hO24 (fun Lc f0 g w' => ∃ (xc2_b8_0 : T_codec_Writer) (ac2_0 : Option Addr) (mc2_0 cc2_0 : Nat) (Sc2_0 : Hp), (G36 xc2_b8_0 = some r) ∧ g 1 = (.pointer (some ⟨b1, 0, none⟩)) ∧ g 4 = (.pointer (some ⟨b8_0, 0, none⟩)) ∧ xc2_b8_0.b.length = mc2_0 ∧ OwnSl 5 1 ac2_0 mc2_0 cc2_0 (fl eB xc2_b8_0.b) Sc2_0 ∧ Own w' (Sc2_0 ++ ((b1, .cells #[(.int .i64 x0.Kind), (.int .i64 x0.Device), (.int .i64 x0.Request), (.int .i64 x0.Ticket), (.int .i64 x0.For), (.int .i64 x0.Until), (.int .i64 x0.Now)] 37 (0, 0)) :: ((b8_0, .cells #[(.slice ac2_0 mc2_0 cc2_0), (.int .i64 xc2_b8_0.e)] 112 (0, 0)) :: L))) ∧ Ext w24 Lc w' (Sc2_0 ++ ((b1, .cells #[(.int .i64 x0.Kind), (.int .i64 x0.Device), (.int .i64 x0.Request), (.int .i64 x0.Ticket), (.int .i64 x0.For), (.int .i64 x0.Until), (.int .i64 x0.Now)] 37 (0, 0)) :: ((b8_0, .cells #[(.slice ac2_0 mc2_0 cc2_0), (.int .i64 xc2_b8_0.e)] 112 (0, 0)) :: L)))) ?_ ?_
    · skip
      refine c_seq ?_
      refine c_reg ?_
      refine sv (r_fieldAddr Try.underlying37 rfl I3 (by decide) rfl) ?_
      refine s_load1 (v := .int _ _) Try.underlying3 rfl rfl (cellB ((hO24.perm (pmbA pmb0)).get (i := 0) rfl) rfl rfl) ?_
      refine c_geq rfl rfl (fun h22 => ?_) (fun h22 => ?_)
      · replace h := iT h22 h
        refine sv (r_move (v := .bool true) rfl) ?_
        refine g_do 23 (by rfl) rfl ?_
        refine sv (r_fieldAddr Try.underlying37 rfl I3 (by decide) rfl) ?_
        refine g_do 23 (by rfl) rfl ?_
        refine s_load1 (v := .int _ _) Try.underlying3 rfl rfl (cellB ((hO24.perm (pmbA pmb0)).get (i := 0) rfl) rfl rfl) ?_
        refine g_do 23 (by rfl) rfl ?_
        refine c_leq rfl rfl (fun h26 => ?_) (fun h26 => ?_)
        · replace h := iT h26 h
          refine sv (r_pickT (v := .bool true) rfl rfl) ?_
          refine s_nil ?_
          refine c_next ?_
          refine c_condT rfl ?_
          refine c_reg ?_
          refine sv (r_move (v := .pointer _) rfl) ?_
          refine sv (r_fieldAddr Try.underlying37 rfl I3 (by decide) rfl) ?_
          refine s_load1 (v := .int _ _) Try.underlying3 rfl rfl (cellB ((hO24.perm (pmbA pmb0)).get (i := 0) rfl) rfl rfl) ?_
          obtain ⟨hO37, e37⟩ := hO24.permE (pmbA (pmbC pmb0))
          obtain ⟨y31, hy31, h⟩ := bindE h
          refine s_call cf57 rfl (c_codec_Writer_Number xc1_b8_0 x0.Request b8_0 ac1_0 mc1_0 cc1_0 Sc1_0 _ hy31 _ _ hmc1_0 hSc1_0 hO37) ?_
          rintro er31 w38 ⟨a31_0, m31_0, c31_0, S31_0, rfl, hm31_0, hS31_0, hO38, e38⟩
          refine ⟨_, rfl, ?_⟩
          refine s_nil ?_
          refine c_next ?_
          rw [← Option.some.inj h] at hr36
          obtain ⟨hO39, e39⟩ := hO38.permE (pmbC (pmbA pmb0))
          obtain ⟨hO40, e40⟩ := hO39.permE (pmC (pmC pm0))
          exact ⟨_, rfl, y31, a31_0, m31_0, c31_0, S31_0, hr36, rfl, rfl, hm31_0, hS31_0, hO40, (e37.trans (e38.trans (e39.trans e40)))⟩
        replace h := iF (Int.not_le.2 h26) h
        refine sv (r_pickT (v := .bool false) rfl rfl) ?_
        refine s_nil ?_
        refine c_next ?_
        refine c_condF rfl ?_
        refine c_skip ?_
        refine c_next ?_
        rw [← Option.some.inj h] at hr36
        exact ⟨_, rfl, xc1_b8_0, ac1_0, mc1_0, cc1_0, Sc1_0, hr36, rfl, rfl, hmc1_0, hSc1_0, hO24, (Ext.refl _ _)⟩
      replace h := iF (Int.not_le.2 h22) h
      refine sv (r_move (v := .bool false) rfl) ?_
      refine g_skip 23 (by rfl) rfl (by rfl) ?_
      refine g_skip 23 (by rfl) rfl (by rfl) ?_
      refine g_skip 23 (by rfl) rfl (by rfl) ?_
      refine sv (r_pickF (v := .bool false) rfl rfl) ?_
      refine s_nil ?_
      refine c_next ?_
      refine c_condF rfl ?_
      refine c_skip ?_
      refine c_next ?_
      rw [← Option.some.inj h] at hr36
      exact ⟨_, rfl, xc1_b8_0, ac1_0, mc1_0, cc1_0, Sc1_0, hr36, rfl, rfl, hmc1_0, hSc1_0, hO24, (Ext.refl _ _)⟩
    intro gg36 w36 hI36
    clear h hr36
    obtain ⟨xc2_b8_0, ac2_0, mc2_0, cc2_0, Sc2_0, h, hsc2_1, hsc2_4, hmc2_0, hSc2_0, hO36, e36⟩ := hI36
    replace h := hG_ hG36 h; clear hG36
    obtain ⟨qq36, rfl⟩ := fr2 hsc2_1 hsc2_4
    clear hsc2_1 hsc2_4
    refine c_seq ?_
    refine c_seq ?_
    refine c_reg ?_
    refine sv (r_fieldAddr Try.underlying37 rfl I3 (by decide) rfl) ?_
    refine s_load1 (v := .int _ _) Try.underlying3 rfl rfl (cellB ((hO36.perm (pmbA pmb0)).get (i := 0) rfl) rfl rfl) ?_
    refine s_nil ?_
    refine c_next ?_
    refine c_block ?_
    obtain ⟨oc58, G58, hG58, h, hr58⟩ := bindG h
    refine c_cutL hO36 (fun Lc f0 g w' => ∃ (xc3_t34 : Bool), (G58 xc3_t34 = some r) ∧ g 1 = (.pointer (some ⟨b1, 0, none⟩)) ∧ g 4 = (.pointer (some ⟨b8_0, 0, none⟩)) ∧ g 33 = (.int .i64 x0.Kind) ∧ g 34 = (.bool xc3_t34) ∧ Own w' (Sc2_0 ++ ((b1, .cells #[(.int .i64 x0.Kind), (.int .i64 x0.Device), (.int .i64 x0.Request), (.int .i64 x0.Ticket), (.int .i64 x0.For), (.int .i64 x0.Until), (.int .i64 x0.Now)] 37 (0, 0)) :: ((b8_0, .cells #[(.slice ac2_0 mc2_0 cc2_0), (.int .i64 xc2_b8_0.e)] 112 (0, 0)) :: L))) ∧ Ext w36 Lc w' (Sc2_0 ++ ((b1, .cells #[(.int .i64 x0.Kind), (.int .i64 x0.Device), (.int .i64 x0.Request), (.int .i64 x0.Ticket), (.int .i64 x0.For), (.int .i64 x0.Until), (.int .i64 x0.Now)] 37 (0, 0)) :: ((b8_0, .cells #[(.slice ac2_0 mc2_0 cc2_0), (.int .i64 xc2_b8_0.e)] 112 (0, 0)) :: L)))) ?_ ?_
    · skip
      refine c_reg ?_
      refine c_eql rfl rfl (fun h35 => ?_) (fun h35 => ?_)
      · replace h := iT h35 h
        refine sv (r_assign (v := .bool true) rfl) ?_
        refine s_nil ?_
        refine c_next ?_
        rw [← Option.some.inj h] at hr58
        exact ⟨_, rfl, true, hr58, rfl, rfl, rfl, rfl, hO36, (Ext.refl _ _)⟩
      replace h := iF h35 h
      refine sv (r_assign (v := .bool false) rfl) ?_
      refine s_nil ?_
      refine c_next ?_
      rw [← Option.some.inj h] at hr58
      exact ⟨_, rfl, false, hr58, rfl, rfl, rfl, rfl, hO36, (Ext.refl _ _)⟩
    intro gg58 w58 hI58
    clear h hr58
    obtain ⟨xc3_t34, h, hsc3_1, hsc3_4, hsc3_33, hsc3_34, hO58, e58⟩ := hI58
    replace h := hG_ hG58 h; clear hG58
    obtain ⟨qq58, rfl⟩ := fr4 hsc3_1 hsc3_4 hsc3_33 hsc3_34
    clear hsc3_1 hsc3_4 hsc3_33 hsc3_34
    rcases Bool.eq_false_or_eq_true (xc3_t34) with hb59 | hb59
    · replace h := iT hb59 h
      refine c_condT (congrArg Value.bool hb59) ?_
      refine c_seq ?_
      refine c_reg ?_
      refine sv (r_move (v := .pointer _) rfl) ?_
      refine sv (r_fieldAddr Try.underlying37 rfl I3 (by decide) rfl) ?_
      refine s_load1 (v := .int _ _) Try.underlying3 rfl rfl (cellB ((hO58.perm (pmbA pmb0)).get (i := 0) rfl) rfl rfl) ?_
      obtain ⟨hO62, e62⟩ := hO58.permE (pmbA (pmbC pmb0))
      obtain ⟨y39, hy39, h⟩ := bindE h
      refine s_call cf58 rfl (c_codec_Writer_Signed xc2_b8_0 x0.For b8_0 ac2_0 mc2_0 cc2_0 Sc2_0 _ hy39 _ _ hmc2_0 hSc2_0 hO62) ?_
      rintro er39 w63 ⟨a39_0, m39_0, c39_0, S39_0, rfl, hm39_0, hS39_0, hO63, e63⟩
      refine ⟨_, rfl, ?_⟩
      refine s_nil ?_
      refine c_next ?_
      refine c_seq ?_
      refine c_reg ?_
      refine sv (r_move (v := .pointer _) rfl) ?_
      refine sv (r_fieldAddr Try.underlying37 rfl I3 (by decide) rfl) ?_
      refine s_load1 (v := .int _ _) Try.underlying3 rfl rfl (cellB ((hO63.perm (pmbC (pmbA pmb0))).get (i := 0) rfl) rfl rfl) ?_
      obtain ⟨hO67, e67⟩ := hO63.permE (pmC pm0)
      obtain ⟨hO68, e68⟩ := hO67.permE (pmbA pmb0)
      obtain ⟨y43, hy43, h⟩ := bindE h
      refine s_call cf57 rfl (c_codec_Writer_Number y39 x0.Until b8_0 a39_0 m39_0 c39_0 S39_0 _ hy43 _ _ hm39_0 hS39_0 hO68) ?_
      rintro er43 w69 ⟨a43_0, m43_0, c43_0, S43_0, rfl, hm43_0, hS43_0, hO69, e69⟩
      refine ⟨_, rfl, ?_⟩
      refine s_nil ?_
      refine c_next ?_
      refine c_reg ?_
      refine sv (r_move (v := .pointer _) rfl) ?_
      refine sv (r_fieldAddr Try.underlying37 rfl I3 (by decide) rfl) ?_
      refine s_load1 (v := .int _ _) Try.underlying3 rfl rfl (cellB ((hO69.perm (pmbC (pmbA pmb0))).get (i := 0) rfl) rfl rfl) ?_
      obtain ⟨hO70, e70⟩ := hO69.permE (pmC pm0)
      obtain ⟨hO71, e71⟩ := hO70.permE (pmbA pmb0)
      obtain ⟨y47, hy47, h⟩ := bindE h
      refine s_call cf57 rfl (c_codec_Writer_Number y43 x0.Now b8_0 a43_0 m43_0 c43_0 S43_0 _ hy47 _ _ hm43_0 hS43_0 hO71) ?_
      rintro er47 w72 ⟨a47_0, m47_0, c47_0, S47_0, rfl, hm47_0, hS47_0, hO72, e72⟩
      refine ⟨_, rfl, ?_⟩
      refine s_nil ?_
      refine x_norm ?_
      refine c_next ?_
      refine c_seq ?_
      refine c_reg ?_
      refine sv (r_move (v := .pointer _) rfl) ?_
      obtain ⟨hO73, e73⟩ := hO72.permE (pmC pm0)
      have hR74 := (hS47_0.drop hO73).2.2
      obtain ⟨hO74, e74⟩ := hO73.dropS
      obtain ⟨y59, hy59, h⟩ := bindE h
      refine s_call cf59 rfl (c_codec_Writer_Bytes y47 b8_0 a47_0 m47_0 c47_0 _ hy59 _ _ hm47_0 hS47_0.le.1 hR74 hO74) ?_
      rintro er59 w75 ⟨a59_0, m59_0, c59_0, a59_1, m59_1, c59_1, S59_1, rfl, hm59_0, hc59_0, hR59_0, hm59_1, hS59_1, hO75, e75⟩
      refine ⟨_, rfl, ?_⟩
      refine sv (r_extract rfl rfl) ?_
      refine sv (r_extract rfl rfl) ?_
      refine sv (r_assign (v := .slice _ _ _) rfl) ?_
      refine sv (r_assign (v := .int _ _) rfl) ?_
      refine s_nil ?_
      refine c_next ?_
      refine c_ret ?_
      refine e_2 (v := .slice _ _ _) (v' := .int _ _) Try.results41 rfl rfl ?_
      obtain ⟨hO76, e76⟩ := hO75.drop1
      obtain ⟨hO77, e77⟩ := hO76.permE (pmbA pmb0)
      obtain ⟨hO78, e78⟩ := hO77.drop1
      rw [← Option.some.inj h]
      exact ⟨a59_1, m59_1, c59_1, S59_1, rfl, hm59_1, hS59_1, hO78, (e2.trans (e8.trans (e11.trans (e15.trans (e16.trans (e17.trans (e24.trans (e36.trans (e58.trans (e62.trans (e63.trans (e67.trans (e68.trans (e69.trans (e70.trans (e71.trans (e72.trans (e73.trans (e74.trans (e75.trans (e76.trans (e77.trans e78))))))))))))))))))))))⟩
    replace h := iF (nt hb59) h
    refine c_condF (congrArg Value.bool hb59) ?_
    refine c_seq ?_
    refine c_reg ?_
    refine c_eql rfl rfl (fun h49 => ?_) (fun h49 => ?_)
    · replace h := iT h49 h
      refine sv (r_assign (v := .bool true) rfl) ?_
      refine s_nil ?_
      refine c_next ?_
      refine c_condT rfl ?_
      refine c_seq ?_
      refine c_reg ?_
      refine sv (r_move (v := .pointer _) rfl) ?_
      refine sv (r_fieldAddr Try.underlying37 rfl I3 (by decide) rfl) ?_
      refine s_load1 (v := .int _ _) Try.underlying3 rfl rfl (cellB ((hO58.perm (pmbA pmb0)).get (i := 0) rfl) rfl rfl) ?_
      obtain ⟨hO81, e81⟩ := hO58.permE (pmbA (pmbC pmb0))
      obtain ⟨y53, hy53, h⟩ := bindE h
      refine s_call cf57 rfl (c_codec_Writer_Number xc2_b8_0 x0.Ticket b8_0 ac2_0 mc2_0 cc2_0 Sc2_0 _ hy53 _ _ hmc2_0 hSc2_0 hO81) ?_
      rintro er53 w82 ⟨a53_0, m53_0, c53_0, S53_0, rfl, hm53_0, hS53_0, hO82, e82⟩
      refine ⟨_, rfl, ?_⟩
      refine s_nil ?_
      refine c_next ?_
      refine c_reg ?_
      refine sv (r_move (v := .pointer _) rfl) ?_
      refine sv (r_fieldAddr Try.underlying37 rfl I3 (by decide) rfl) ?_
      refine s_load1 (v := .int _ _) Try.underlying3 rfl rfl (cellB ((hO82.perm (pmbC (pmbA pmb0))).get (i := 0) rfl) rfl rfl) ?_
      obtain ⟨hO83, e83⟩ := hO82.permE (pmC pm0)
      obtain ⟨hO84, e84⟩ := hO83.permE (pmbA pmb0)
      obtain ⟨y57, hy57, h⟩ := bindE h
      refine s_call cf57 rfl (c_codec_Writer_Number y53 x0.Now b8_0 a53_0 m53_0 c53_0 S53_0 _ hy57 _ _ hm53_0 hS53_0 hO84) ?_
      rintro er57 w85 ⟨a57_0, m57_0, c57_0, S57_0, rfl, hm57_0, hS57_0, hO85, e85⟩
      refine ⟨_, rfl, ?_⟩
      refine s_nil ?_
      refine x_norm ?_
      refine c_next ?_
      refine c_seq ?_
      refine c_reg ?_
      refine sv (r_move (v := .pointer _) rfl) ?_
      obtain ⟨hO86, e86⟩ := hO85.permE (pmC pm0)
      have hR87 := (hS57_0.drop hO86).2.2
      obtain ⟨hO87, e87⟩ := hO86.dropS
      obtain ⟨y59, hy59, h⟩ := bindE h
      refine s_call cf59 rfl (c_codec_Writer_Bytes y57 b8_0 a57_0 m57_0 c57_0 _ hy59 _ _ hm57_0 hS57_0.le.1 hR87 hO87) ?_
      rintro er59 w88 ⟨a59_0, m59_0, c59_0, a59_1, m59_1, c59_1, S59_1, rfl, hm59_0, hc59_0, hR59_0, hm59_1, hS59_1, hO88, e88⟩
      refine ⟨_, rfl, ?_⟩
      refine sv (r_extract rfl rfl) ?_
      refine sv (r_extract rfl rfl) ?_
      refine sv (r_assign (v := .slice _ _ _) rfl) ?_
      refine sv (r_assign (v := .int _ _) rfl) ?_
      refine s_nil ?_
      refine c_next ?_
      refine c_ret ?_
      refine e_2 (v := .slice _ _ _) (v' := .int _ _) Try.results41 rfl rfl ?_
      obtain ⟨hO89, e89⟩ := hO88.drop1
      obtain ⟨hO90, e90⟩ := hO89.permE (pmbA pmb0)
      obtain ⟨hO91, e91⟩ := hO90.drop1
      rw [← Option.some.inj h]
      exact ⟨a59_1, m59_1, c59_1, S59_1, rfl, hm59_1, hS59_1, hO91, (e2.trans (e8.trans (e11.trans (e15.trans (e16.trans (e17.trans (e24.trans (e36.trans (e58.trans (e81.trans (e82.trans (e83.trans (e84.trans (e85.trans (e86.trans (e87.trans (e88.trans (e89.trans (e90.trans e91)))))))))))))))))))⟩
    replace h := iF h49 h
    refine sv (r_assign (v := .bool false) rfl) ?_
    refine s_nil ?_
    refine c_next ?_
    refine c_condF rfl ?_
    refine c_skip ?_
    refine x_norm ?_
    refine c_next ?_
    refine c_seq ?_
    refine c_reg ?_
    refine sv (r_move (v := .pointer _) rfl) ?_
    have hR92 := (hSc2_0.drop hO58).2.2
    obtain ⟨hO92, e92⟩ := hO58.dropS
    obtain ⟨hO93, e93⟩ := hO92.permE (pmbC pmb0)
    obtain ⟨y59, hy59, h⟩ := bindE h
    refine s_call cf59 rfl (c_codec_Writer_Bytes xc2_b8_0 b8_0 ac2_0 mc2_0 cc2_0 _ hy59 _ _ hmc2_0 hSc2_0.le.1 (hR92.ext e93) hO93) ?_
    rintro er59 w94 ⟨a59_0, m59_0, c59_0, a59_1, m59_1, c59_1, S59_1, rfl, hm59_0, hc59_0, hR59_0, hm59_1, hS59_1, hO94, e94⟩
    refine ⟨_, rfl, ?_⟩
    refine sv (r_extract rfl rfl) ?_
    refine sv (r_extract rfl rfl) ?_
    refine sv (r_assign (v := .slice _ _ _) rfl) ?_
    refine sv (r_assign (v := .int _ _) rfl) ?_
    refine s_nil ?_
    refine c_next ?_
    refine c_ret ?_
    refine e_2 (v := .slice _ _ _) (v' := .int _ _) Try.results41 rfl rfl ?_
    obtain ⟨hO95, e95⟩ := hO94.drop1
    obtain ⟨hO96, e96⟩ := hO95.permE (pmbA pmb0)
    obtain ⟨hO97, e97⟩ := hO96.drop1
    rw [← Option.some.inj h]
    exact ⟨a59_1, m59_1, c59_1, S59_1, rfl, hm59_1, hS59_1, hO97, (e2.trans (e8.trans (e11.trans (e15.trans (e16.trans (e17.trans (e24.trans (e36.trans (e58.trans (e92.trans (e93.trans (e94.trans (e95.trans (e96.trans e97))))))))))))))⟩
  replace h := iF (nt hb9) h
  refine c_condT (congrArg Value.bool (nnf hb9)) ?_
  refine c_seq ?_
  refine c_reg ?_
  refine sv (r_assign (v := .slice _ _ _) rfl) ?_
  refine sv (r_assign (v := .int _ _) rfl) ?_
  refine s_nil ?_
  refine c_next ?_
  refine c_ret ?_
  refine r_then ?_
  refine e_2 (v := .slice _ _ _) (v' := .int _ _) Try.results41 rfl rfl ?_
  obtain ⟨hO98, e98⟩ := hO8.drop1
  rw [← Option.some.inj h]
  exact ⟨none, 0, 0, [], rfl, rfl, (OwnSl.nil _ _), hO98, (e2.trans (e8.trans e98))⟩
theorem c_batonref01_Same (x0 : (List UInt8)) (x1 : (List UInt8)) (aP0 : Option Addr) (mP0 cP0 : Nat) (aP1 : Option Addr) (mP1 cP1 : Nat)  (r : Bool) (h : F_batonref01_Same x0 x1 = some r) (w : World) (L : Hp) (hm0p : x0.length = mP0) (hc0p : mP0 ≤ cP0) (hR0p : Rd w L aP0 (fl eB x0)) (hm1p : x1.length = mP1) (hc1p : mP1 ≤ cP1) (hR1p : Rd w L aP1 (fl eB x1)) (hO : Own w L) :
    Calls Try.prog 42 #[(.slice aP0 mP0 cP0), (.slice aP1 mP1 cP1)] w fun en w' => en = .returned (.bool r) ∧ Own w' L ∧ Ext w L w' L := by
  unfold F_batonref01_Same at h
  refine enter (n := 26) [(.slice aP0 mP0 cP0), (.slice aP1 mP1 cP1)] Try.func42 rfl rfl (Nat.le_of_ble_eq_true rfl) ?_
  refine c_seq ?_
  refine c_reg ?_
  refine sv (r_assign (v := .bool false) rfl) ?_
  refine s_nil ?_
  refine c_next ?_
  refine c_seq ?_
  obtain ⟨oc1, G1, hG1, h, hr1⟩ := bindG h
  refine c_cutL hO (fun Lc f0 g w' => ∃ (xc1_t10 : Bool), (G1 xc1_t10 = some r) ∧ g 0 = (.slice aP0 mP0 cP0) ∧ g 1 = (.slice aP1 mP1 cP1) ∧ g 10 = (.bool xc1_t10) ∧ Own w' L ∧ Ext w Lc w' L) ?_ ?_
  · skip
    refine c_reg ?_
    refine sv (r_move (v := .slice _ _ _) rfl) ?_
    refine sv (r_lenL (xs := x0) Try.underlying75 rfl hm0p) ?_
    refine sv (r_move (v := .slice _ _ _) rfl) ?_
    refine sv (r_lenL (xs := x1) Try.underlying75 rfl hm1p) ?_
    refine c_neq rfl rfl (fun h10 => ?_) (fun h10 => ?_)
    · replace h := iT h10 h
      refine s_nil ?_
      refine c_next ?_
      rw [← Option.some.inj h] at hr1
      exact ⟨_, rfl, true, hr1, rfl, rfl, rfl, hO, (Ext.refl _ _)⟩
    replace h := iF (Classical.not_not.2 h10) h
    refine s_nil ?_
    refine c_next ?_
    rw [← Option.some.inj h] at hr1
    exact ⟨_, rfl, false, hr1, rfl, rfl, rfl, hO, (Ext.refl _ _)⟩
  intro gg1 w1 hI1
  clear h hr1
  obtain ⟨xc1_t10, h, hsc1_0, hsc1_1, hsc1_10, hO1, e1⟩ := hI1
  replace h := hG_ hG1 h; clear hG1
  obtain ⟨qq1, rfl⟩ := fr3 hsc1_0 hsc1_1 hsc1_10
  clear hsc1_0 hsc1_1 hsc1_10
  rcases Bool.eq_false_or_eq_true (xc1_t10) with hb2 | hb2
  · replace h := iT hb2 h
    refine c_condT (congrArg Value.bool hb2) ?_
    refine c_seq ?_
    refine c_reg ?_
    refine sv (r_assign (v := .bool false) rfl) ?_
    refine s_nil ?_
    refine c_next ?_
    refine c_ret ?_
    refine r_then ?_
    refine e_1 (v := .bool false) Try.results42 rfl ?_
    rw [← Option.some.inj h]
    exact ⟨rfl, hO1, e1⟩
  replace h := iF (nt hb2) h
  refine c_condF (congrArg Value.bool hb2) ?_
  refine c_skip ?_
  refine c_next ?_
  refine c_seq ?_
  refine c_seq ?_
  refine c_reg ?_
  refine sv (r_assign (v := .int _ _) rfl) ?_
  refine s_nil ?_
  refine c_next ?_
  refine c_block ?_
  have hR0p := (hR0p.ext e1)
  have hR1p := (hR1p.ext e1)
  obtain ⟨kl7, hkl7⟩ := loop_iff.1 h
  clear h
  refine c_loopL hO1 (fun Lc f0 m g wl => ∃ (xl2_t5 : Int), (iterK (batonref01_Same_l2 x0 x1) m xl2_t5 = some r) ∧ g 0 = (.slice aP0 mP0 cP0) ∧ g 1 = (.slice aP1 mP1 cP1) ∧ g 5 = (.int .i64 xl2_t5) ∧ Own wl L ∧ Ext w1 Lc wl L) kl7 ?_ ?_
  · skip
    exact ⟨0, hkl7, rfl, rfl, rfl, hO1, (Ext.refl _ _)⟩
  clear hkl7
  intro mm7 gg7 w7 hI7
  obtain ⟨xl2_t5, hkl7, hsl2_0, hsl2_1, hsl2_5, hO7, e7⟩ := hI7
  obtain ⟨kl7, yl7, rfl, h, hyl7⟩ := iterE hkl7
  clear hkl7
  obtain ⟨qq7, rfl⟩ := fr3 hsl2_0 hsl2_1 hsl2_5
  clear hsl2_0 hsl2_1 hsl2_5
  refine c_seq ?_
  refine c_seq ?_
  refine c_reg ?_
  refine sv (r_move (v := .int _ _) rfl) ?_
  refine sv (r_move (v := .slice _ _ _) rfl) ?_
  refine sv (r_lenL (xs := x0) Try.underlying75 rfl hm0p) ?_
  refine c_lss rfl rfl (fun h14 => ?_) (fun h14 => ?_)
  · replace h := iT h14 h
    refine s_nil ?_
    refine c_next ?_
    refine c_condT rfl ?_
    refine c_skip ?_
    refine c_next ?_
    refine c_seq ?_
    refine c_block ?_
    refine c_seq ?_
    have hR0p := (hR0p.ext e7)
    have hR1p := (hR1p.ext e7)
    refine d_startL hO7 hO7 9 (by kernel_rfl) (pk_then (pk_block (pk_then (pk_then (pk_block (pk_then pk_body)))))) ?_
    intro hP9 wd9 hK9 hO8 e8
    refine dT (i := 0) (listed' := #[I_,O_,O_,O_,O_,O_,O_,O_,O_]) rfl hP9 hK9 (fun wS hS => (r_move (v := .slice _ _ _) rfl)) ?_
    refine dT (i := 1) (listed' := #[I_,I_,O_,O_,O_,O_,O_,O_,O_]) rfl hP9 hK9 (fun wS hS => (r_move (v := .int _ _) rfl)) ?_
    obtain ⟨y19, hy19, h⟩ := bindE h
    obtain ⟨ad19, had19, hk19⟩ := ix_known (e := eB) (Rd.cs hR0p) eB_len (by decide) hy19
    have hx19 : Value.slice aP0 mP0 cP0 = .slice (some ad19) mP0 cP0 := by rw [had19]
    refine dT (i := 2) (listed' := #[I_,I_,I_,O_,O_,O_,O_,O_,O_]) rfl hP9 hK9 (fun wS hS => (ra_idx (xs := x0) (i := xl2_t5) Try.underlying75 I5 (by exact hx19) (by rfl) hm0p hy19)) ?_
    refine dT (i := 3) (listed' := #[I_,I_,I_,I_,O_,O_,O_,O_,O_]) rfl hP9 hK9 (fun wS hS => (r_load1 (v := .int _ _) Try.underlying5 rfl rfl (cellP (hk19 _ (hR0p.kept hS)) 0 rfl))) ?_
    refine dT (i := 4) (listed' := #[I_,I_,I_,I_,I_,O_,O_,O_,O_]) rfl hP9 hK9 (fun wS hS => (r_move (v := .slice _ _ _) rfl)) ?_
    refine dT (i := 5) (listed' := #[I_,I_,I_,I_,I_,I_,O_,O_,O_]) rfl hP9 hK9 (fun wS hS => (r_move (v := .int _ _) rfl)) ?_
    obtain ⟨y23, hy23, h⟩ := bindE h
    obtain ⟨ad23, had23, hk23⟩ := ix_known (e := eB) (Rd.cs hR1p) eB_len (by decide) hy23
    have hx23 : Value.slice aP1 mP1 cP1 = .slice (some ad23) mP1 cP1 := by rw [had23]
    refine dT (i := 6) (listed' := #[I_,I_,I_,I_,I_,I_,I_,O_,O_]) rfl hP9 hK9 (fun wS hS => (ra_idx (xs := x1) (i := xl2_t5) Try.underlying75 I5 (by exact hx23) (by rfl) hm1p hy23)) ?_
    refine dT (i := 7) (listed' := #[I_,I_,I_,I_,I_,I_,I_,I_,O_]) rfl hP9 hK9 (fun wS hS => (r_load1 (v := .int _ _) Try.underlying5 rfl rfl (cellP (hk23 _ (hR1p.kept hS)) 0 rfl))) ?_
    refine dt_neq (i := 8) (listed' := #[I_,I_,I_,I_,I_,I_,I_,I_,I_]) (by rfl) (by kernel_rfl) (by rfl) hP9.u rfl hK9 rfl rfl (fun h25 => ?_) (fun h25 => ?_)
    · replace h := iT h25 h
      refine d_done (by kernel_rfl) ?_
      refine c_next ?_
      refine c_condT rfl ?_
      refine c_seq ?_
      refine c_reg ?_
      refine sv (r_assign (v := .bool false) rfl) ?_
      refine s_nil ?_
      refine c_next ?_
      refine c_ret ?_
      refine r_block ?_
      refine r_then ?_
      refine r_then ?_
      refine r_block ?_
      refine r_then ?_
      replace h := crossE h hyl7
      refine e_1 (v := .bool false) Try.results42 rfl ?_
      rw [← Option.some.inj h]
      exact ⟨rfl, hO8, (e1.trans (e7.trans e8))⟩
    replace h := iF (Classical.not_not.2 h25) h
    refine d_done (by kernel_rfl) ?_
    refine c_next ?_
    refine c_condF rfl ?_
    refine c_skip ?_
    refine x_norm ?_
    refine c_next ?_
    refine c_reg ?_
    refine sv (r_move (v := .int _ _) rfl) ?_
    refine sv (r_addI (a := xl2_t5) (b := 1) rfl rfl) ?_
    refine sv (r_assign (v := .int _ _) rfl) ?_
    refine s_nil ?_
    refine l_end (m' := kl7) (Nat.lt_succ_self _) ?_
    rw [← Option.some.inj h] at hyl7
    exact ⟨(w64 (xl2_t5 + 1)), hyl7, rfl, rfl, rfl, hO8, (e7.trans e8)⟩
  replace h := iF (Int.not_lt.2 h14) h
  refine s_nil ?_
  refine c_next ?_
  refine c_condF rfl ?_
  refine c_exit ?_
  refine x_then ?_
  refine x_then ?_
  refine x_same ?_
  replace h := crossE h hyl7
  refine c_next ?_
  refine c_seq ?_
  refine c_reg ?_
  refine sv (r_assign (v := .bool true) rfl) ?_
  refine s_nil ?_
  refine c_next ?_
  refine c_ret ?_
  refine e_1 (v := .bool true) Try.results42 rfl ?_
  rw [← Option.some.inj h]
  exact ⟨rfl, hO7, (e1.trans e7)⟩
theorem c_batonlaw28_awake    (r : Bool) (h : F_batonlaw28_awake = some r) (w : World) (L : Hp)  (hO : Own w L) :
    Calls Try.prog 18 #[] w fun en w' => en = .returned (.bool r) ∧ Own w' L ∧ Ext w L w' L := by
  unfold F_batonlaw28_awake at h
  refine enter (n := 17) [] Try.func18 rfl rfl (Nat.le_of_ble_eq_true rfl) ?_
  refine c_seq ?_
  refine c_reg ?_
  refine sv (r_assign (v := .bool false) rfl) ?_
  refine s_nil ?_
  refine c_next ?_
  refine c_seq ?_
  refine c_reg ?_
  refine sv (r_build (vs := [(0, (.int .i64 5)), (1, (.int .i64 1)), (2, (.int .i64 2))]) (cells := #[(.int .i64 5), (.int .i64 1), (.int .i64 2), (.int .i64 0), (.int .i64 0), (.int .i64 0), (.int .i64 0)]) I37 pl37 rfl (by kernel_rfl)) ?_
  obtain ⟨y5, hy5, h⟩ := bindE h
  refine s_call cf41 rfl (c_opcode_Op ({ Kind := 5, Device := 1, Request := 2, Ticket := 0, For := 0, Until := 0, Now := 0 } : T_claim_Op) _ hy5 _ _ hO) ?_
  rintro er5 w2 ⟨a5_0, m5_0, c5_0, S5_0, rfl, hm5_0, hS5_0, hO2, e2⟩
  refine ⟨_, rfl, ?_⟩
  refine sv (r_move (v := .tuple _) rfl) ?_
  refine sv (r_extract rfl rfl) ?_
  refine sv (r_extract rfl rfl) ?_
  refine sv (r_assign (v := .slice _ _ _) rfl) ?_
  refine sv (r_assign (v := .int _ _) rfl) ?_
  refine s_nil ?_
  refine c_next ?_
  refine c_seq ?_
  refine c_reg ?_
  refine sv (r_move (v := .int _ _) rfl) ?_
  refine c_eql rfl rfl (fun h9 => ?_) (fun h9 => ?_)
  · replace h := iT h9 h
    refine sv (r_move (v := .bool true) rfl) ?_
    refine g_do 10 (by rfl) rfl ?_
    refine sv (r_move (v := .slice _ _ _) rfl) ?_
    refine g_do 10 (by rfl) rfl ?_
    refine a_lit (en := eB) (xs := [5, 1, 2]) (vs := [(.int .u8 ((5 : UInt8).toNat : Int)), (.int .u8 ((1 : UInt8).toNat : Int)), (.int .u8 ((2 : UInt8).toNat : Int))]) Try.underlying75 I5 hO2 rfl rfl (by simp [Value.cells]) (by decide) rfl eB_len rfl (by decide) ?_
    intro a12 m12 c12 S12 w3 hm12 hS12 hO3 e3
    refine g_do 10 (by rfl) rfl ?_
    obtain ⟨hO4, e4⟩ := hO3.permE (pmA pm0)
    have hR5 := (hS5_0.drop hO4).2.2
    obtain ⟨hO5, e5⟩ := hO4.dropS
    have hR6 := (hS12.drop hO5).2.2
    obtain ⟨hO6, e6⟩ := hO5.dropS
    obtain ⟨y13, hy13, h⟩ := bindE h
    refine s_call cf42 rfl (c_batonref01_Same y5.1 [5, 1, 2] a5_0 m5_0 c5_0 a12 m12 c12 _ hy13 _ _ hm5_0 hS5_0.le.1 (hR5.ext e6) hm12 hS12.le.1 hR6 hO6) ?_
    rintro er13 w7 ⟨rfl, hO7, e7⟩
    obtain ⟨hO8, e8⟩ := Own.lend hO5 hO7 e7
    obtain ⟨hO9, e9⟩ := Own.lend hO4 hO8 e8
    refine ⟨_, rfl, ?_⟩
    refine sv (r_pickT (v := .bool _) rfl rfl) ?_
    refine sv (r_move (v := .bool _) rfl) ?_
    rcases Bool.eq_false_or_eq_true (y13) with hb10 | hb10
    · replace h := iT hb10 h
      refine sv (r_pickT (v := .bool true) (by exact (congrArg Value.bool hb10)) rfl) ?_
      refine sv (r_assign (v := .bool true) rfl) ?_
      refine s_nil ?_
      refine c_next ?_
      refine c_ret ?_
      refine e_1 (v := .bool true) Try.results18 rfl ?_
      have hR11 := (hS5_0.drop hO9).2.2
      obtain ⟨hO11, e11⟩ := hO9.dropS
      have hR12 := (hS12.drop hO11).2.2
      obtain ⟨hO12, e12⟩ := hO11.dropS
      rw [← Option.some.inj h]
      exact ⟨rfl, hO12, (e2.trans (e3.trans (e4.trans (e9.trans (e11.trans e12)))))⟩
    replace h := iF (nt hb10) h
    refine sv (r_pickF (v := .bool false) (by exact (congrArg Value.bool hb10)) rfl) ?_
    refine sv (r_assign (v := .bool false) rfl) ?_
    refine s_nil ?_
    refine c_next ?_
    refine c_ret ?_
    refine e_1 (v := .bool false) Try.results18 rfl ?_
    have hR13 := (hS5_0.drop hO9).2.2
    obtain ⟨hO13, e13⟩ := hO9.dropS
    have hR14 := (hS12.drop hO13).2.2
    obtain ⟨hO14, e14⟩ := hO13.dropS
    rw [← Option.some.inj h]
    exact ⟨rfl, hO14, (e2.trans (e3.trans (e4.trans (e9.trans (e13.trans e14)))))⟩
  replace h := iF h9 h
  refine sv (r_move (v := .bool false) rfl) ?_
  refine g_skip 10 (by rfl) rfl (by rfl) ?_
  refine g_skip 10 (by rfl) rfl (by rfl) ?_
  refine g_skip 10 (by rfl) rfl (by rfl) ?_
  refine sv (r_pickF (v := .bool false) rfl rfl) ?_
  refine sv (r_move (v := .bool false) rfl) ?_
  refine sv (r_pickF (v := .bool false) rfl rfl) ?_
  refine sv (r_assign (v := .bool false) rfl) ?_
  refine s_nil ?_
  refine c_next ?_
  refine c_ret ?_
  refine e_1 (v := .bool false) Try.results18 rfl ?_
  have hR15 := (hS5_0.drop hO2).2.2
  obtain ⟨hO15, e15⟩ := hO2.dropS
  rw [← Option.some.inj h]
  exact ⟨rfl, hO15, (e2.trans e15)⟩
theorem c_batonlaw28_OpcodeSame (x0 : T_claim_State) (x1 : T_claim_Op) (aP0 : Option Addr) (mP0 cP0 : Nat) (aP1 : Option Addr) (mP1 cP1 : Nat)  (r : Bool) (h : F_batonlaw28_OpcodeSame x0 x1 = some r) (w : World) (L : Hp) (hm0p : x0.Roster.length = mP0) (hc0p : mP0 ≤ cP0) (hR0p : Rd w L aP0 (fl e_roster_Device x0.Roster)) (hm1p : x0.Tickets.length = mP1) (hc1p : mP1 ≤ cP1) (hR1p : Rd w L aP1 (fl e_ticket_Ticket x0.Tickets)) (hO : Own w L) :
    Calls Try.prog 6 #[(.agg #[(.int .i64 x0.Epoch), (.int .i64 x0.Owner), (.int .i64 x0.Next), (.slice aP0 mP0 cP0), (.slice aP1 mP1 cP1)]), (.agg #[(.int .i64 x1.Kind), (.int .i64 x1.Device), (.int .i64 x1.Request), (.int .i64 x1.Ticket), (.int .i64 x1.For), (.int .i64 x1.Until), (.int .i64 x1.Now)])] w fun en w' => en = .returned (.bool r) ∧ Own w' L ∧ Ext w L w' L := by
  unfold F_batonlaw28_OpcodeSame at h
  refine enter (n := 40) [(.agg #[(.int .i64 x0.Epoch), (.int .i64 x0.Owner), (.int .i64 x0.Next), (.slice aP0 mP0 cP0), (.slice aP1 mP1 cP1)]), (.agg #[(.int .i64 x1.Kind), (.int .i64 x1.Device), (.int .i64 x1.Request), (.int .i64 x1.Ticket), (.int .i64 x1.For), (.int .i64 x1.Until), (.int .i64 x1.Now)])] Try.func6 rfl rfl (Nat.le_of_ble_eq_true rfl) ?_
  refine c_seq ?_
  refine c_reg ?_
  refine s_box (v := (.agg #[(.int .i64 x0.Epoch), (.int .i64 x0.Owner), (.int .i64 x0.Next), (.slice aP0 mP0 cP0), (.slice aP1 mP1 cP1)])) rfl hO ?_
  intro b2 w3 hz2 hl2 hO3 e3
  have hO4 : Own w3 ((b2, .cells #[(.int .i64 x0.Epoch), (.int .i64 x0.Owner), (.int .i64 x0.Next), (.slice aP0 mP0 cP0), (.slice aP1 mP1 cP1)] 27 (0, 0)) :: L) := hO3
  refine s_box (v := (.agg #[(.int .i64 x1.Kind), (.int .i64 x1.Device), (.int .i64 x1.Request), (.int .i64 x1.Ticket), (.int .i64 x1.For), (.int .i64 x1.Until), (.int .i64 x1.Now)])) rfl hO4 ?_
  intro b3 w6 hz3 hl3 hO6 e6
  have hO7 : Own w6 ((b3, .cells #[(.int .i64 x1.Kind), (.int .i64 x1.Device), (.int .i64 x1.Request), (.int .i64 x1.Ticket), (.int .i64 x1.For), (.int .i64 x1.Until), (.int .i64 x1.Now)] 37 (0, 0)) :: ((b2, .cells #[(.int .i64 x0.Epoch), (.int .i64 x0.Owner), (.int .i64 x0.Next), (.slice aP0 mP0 cP0), (.slice aP1 mP1 cP1)] 27 (0, 0)) :: L)) := hO6
  refine sv (r_assign (v := .bool false) rfl) ?_
  refine s_nil ?_
  refine c_next ?_
  refine c_seq ?_
  refine c_seq ?_
  refine c_reg ?_
  obtain ⟨y9, hy9, h⟩ := bindE h
  refine s_call cf18 rfl (c_batonlaw28_awake _ hy9 _ _ hO7) ?_
  rintro er9 w12 ⟨rfl, hO12, e12⟩
  refine ⟨_, rfl, ?_⟩
  refine sv (r_not (b := y9) rfl) ?_
  refine s_nil ?_
  refine c_next ?_
  rcases Bool.eq_false_or_eq_true (y9) with hb13 | hb13
  · replace h := iT hb13 h
    refine c_condF (congrArg Value.bool (nnt hb13)) ?_
    refine c_skip ?_
    refine c_next ?_
    refine c_seq ?_
    have hR0p := (hR0p.ext (e3.trans (e6.trans e12)))
    have hR1p := (hR1p.ext (e3.trans (e6.trans e12)))
    obtain ⟨oc24, G24, hG24, h, hr24⟩ := bindG h
    refine c_cutL hO12 (fun Lc f0 g w' => ∃ (xc1_t18 : Bool), (G24 xc1_t18 = some r) ∧ g 2 = (.pointer (some ⟨b2, 0, none⟩)) ∧ g 3 = (.pointer (some ⟨b3, 0, none⟩)) ∧ g 18 = (.bool xc1_t18) ∧ Own w' ((b2, .cells #[(.int .i64 x0.Epoch), (.int .i64 x0.Owner), (.int .i64 x0.Next), (.slice aP0 mP0 cP0), (.slice aP1 mP1 cP1)] 27 (0, 0)) :: ((b3, .cells #[(.int .i64 x1.Kind), (.int .i64 x1.Device), (.int .i64 x1.Request), (.int .i64 x1.Ticket), (.int .i64 x1.For), (.int .i64 x1.Until), (.int .i64 x1.Now)] 37 (0, 0)) :: L)) ∧ Ext w12 Lc w' ((b2, .cells #[(.int .i64 x0.Epoch), (.int .i64 x0.Owner), (.int .i64 x0.Next), (.slice aP0 mP0 cP0), (.slice aP1 mP1 cP1)] 27 (0, 0)) :: ((b3, .cells #[(.int .i64 x1.Kind), (.int .i64 x1.Device), (.int .i64 x1.Request), (.int .i64 x1.Ticket), (.int .i64 x1.For), (.int .i64 x1.Until), (.int .i64 x1.Now)] 37 (0, 0)) :: L))) ?_ ?_
    · skip
      refine c_reg ?_
      refine s_loadAll Try.underlying27 rfl I27 rfl (hO12.get (i := 1) rfl) rfl rfl ?_
      obtain ⟨y12, hy12, h⟩ := bindE h
      refine s_call cf15 rfl (c_batonlaw27_Few x0 aP0 mP0 cP0 aP1 mP1 cP1 _ hy12 _ _ hm0p hc0p hR0p hm1p hc1p hR1p hO12) ?_
      rintro er12 w25 ⟨rfl, hO25, e25⟩
      refine ⟨_, rfl, ?_⟩
      refine sv (r_not (b := y12) rfl) ?_
      refine sv (r_move (v := .bool _) rfl) ?_
      rcases Bool.eq_false_or_eq_true (y12) with hb26 | hb26
      · replace h := iT hb26 h
        refine g_do 14 (by rfl) (congrArg Value.bool (nnt hb26)) ?_
        refine s_loadAll Try.underlying27 rfl I27 rfl (hO25.get (i := 1) rfl) rfl rfl ?_
        refine g_do 14 (by rfl) (congrArg Value.bool (nnt hb26)) ?_
        obtain ⟨y16, hy16, h⟩ := bindE h
        refine s_call cf16 rfl (c_claim_Right x0 aP0 mP0 cP0 aP1 mP1 cP1 _ hy16 _ _ hm0p hc0p (hR0p.ext e25) hm1p hc1p (hR1p.ext e25) hO25) ?_
        rintro er16 w27 ⟨rfl, hO27, e27⟩
        refine ⟨_, rfl, ?_⟩
        refine g_do 14 (by rfl) (congrArg Value.bool (nnt hb26)) ?_
        refine sv (r_not (b := y16) rfl) ?_
        refine sv (r_pickF (v := .bool _) (by exact (congrArg Value.bool (nnt hb26))) rfl) ?_
        refine s_nil ?_
        refine c_next ?_
        rw [← Option.some.inj h] at hr24
        obtain ⟨hO28, e28⟩ := hO27.permE (pmbC pmb0)
        exact ⟨_, rfl, (!y16), hr24, rfl, rfl, rfl, hO28, (e25.trans (e27.trans e28))⟩
      replace h := iF (nt hb26) h
      refine g_skip 14 (by rfl) (congrArg Value.bool (nnf hb26)) (by rfl) ?_
      refine g_skip 14 (by rfl) (congrArg Value.bool (nnf hb26)) (by rfl) ?_
      refine g_skip 14 (by rfl) (congrArg Value.bool (nnf hb26)) (by rfl) ?_
      refine sv (r_pickT (v := .bool true) (by exact (congrArg Value.bool (nnf hb26))) rfl) ?_
      refine s_nil ?_
      refine c_next ?_
      rw [← Option.some.inj h] at hr24
      obtain ⟨hO29, e29⟩ := hO25.permE (pmbC pmb0)
      exact ⟨_, rfl, true, hr24, rfl, rfl, rfl, hO29, (e25.trans e29)⟩
    intro gg24 w24 hI24
    clear h hr24
    obtain ⟨xc1_t18, h, hsc1_2, hsc1_3, hsc1_18, hO24, e24⟩ := hI24
    replace h := hG_ hG24 h; clear hG24
    obtain ⟨qq24, rfl⟩ := fr3 hsc1_2 hsc1_3 hsc1_18
    clear hsc1_2 hsc1_3 hsc1_18
    rcases Bool.eq_false_or_eq_true (xc1_t18) with hb30 | hb30
    · replace h := iT hb30 h
      refine c_condT (congrArg Value.bool hb30) ?_
      refine c_seq ?_
      refine c_reg ?_
      refine sv (r_assign (v := .bool true) rfl) ?_
      refine s_nil ?_
      refine c_next ?_
      refine c_ret ?_
      refine r_then ?_
      refine e_1 (v := .bool true) Try.results6 rfl ?_
      obtain ⟨hO31, e31⟩ := hO24.drop1
      obtain ⟨hO32, e32⟩ := hO31.drop1
      rw [← Option.some.inj h]
      exact ⟨rfl, hO32, (e3.trans (e6.trans (e12.trans (e24.trans (e31.trans e32)))))⟩
    replace h := iF (nt hb30) h
    refine c_condF (congrArg Value.bool hb30) ?_
    refine c_skip ?_
    refine c_next ?_
    refine c_seq ?_
    refine c_reg ?_
    refine s_loadAll Try.underlying27 rfl I27 rfl (hO24.get (i := 0) rfl) rfl rfl ?_
    refine s_loadAll Try.underlying37 rfl I37 rfl (hO24.get (i := 1) rfl) rfl rfl ?_
    obtain ⟨y22, hy22, h⟩ := bindE h
    refine s_call cf9 rfl (c_claim_Do x0 x1 aP0 mP0 cP0 aP1 mP1 cP1 _ hy22 _ _ hm0p hc0p (hR0p.ext e24) hm1p hc1p (hR1p.ext e24) hO24) ?_
    rintro er22 w36 ⟨a22_0, m22_0, c22_0, S22_0, a22_1, m22_1, c22_1, S22_1, rfl, hm22_0, hS22_0, hm22_1, hS22_1, hO36, e36⟩
    refine ⟨_, rfl, ?_⟩
    refine sv (r_move (v := .tuple _) rfl) ?_
    refine sv (r_extract rfl rfl) ?_
    refine sv (r_extract rfl rfl) ?_
    refine s_alloc I27 hO36 ?_
    intro b5 w37 hz5 hl5 hO37 e37
    have hO38 : Own w37 ((b5, .cells #[(.int .i64 0), (.int .i64 0), (.int .i64 0), (.slice none 0 0), (.slice none 0 0)] 27 (0, 0)) :: (S22_0 ++ (S22_1 ++ ((b2, .cells #[(.int .i64 x0.Epoch), (.int .i64 x0.Owner), (.int .i64 x0.Next), (.slice aP0 mP0 cP0), (.slice aP1 mP1 cP1)] 27 (0, 0)) :: ((b3, .cells #[(.int .i64 x1.Kind), (.int .i64 x1.Device), (.int .i64 x1.Request), (.int .i64 x1.Ticket), (.int .i64 x1.For), (.int .i64 x1.Until), (.int .i64 x1.Now)] 37 (0, 0)) :: L))))) := hO37
    refine s_storeN (vs := #[(.int .i64 y22.1.Epoch), (.int .i64 y22.1.Owner), (.int .i64 y22.1.Next), (.slice a22_0 m22_0 c22_0), (.slice a22_1 m22_1 c22_1)]) I27 rfl rfl rfl hO38 (i := 0) rfl (Nat.le_of_ble_eq_true rfl) (List.all_eq_true.1 rfl) ?_
    intro w40 hO40 e40
    have hO41 : Own w40 ((b5, .cells #[(.int .i64 y22.1.Epoch), (.int .i64 y22.1.Owner), (.int .i64 y22.1.Next), (.slice a22_0 m22_0 c22_0), (.slice a22_1 m22_1 c22_1)] 27 (0, 0)) :: (S22_0 ++ (S22_1 ++ ((b2, .cells #[(.int .i64 x0.Epoch), (.int .i64 x0.Owner), (.int .i64 x0.Next), (.slice aP0 mP0 cP0), (.slice aP1 mP1 cP1)] 27 (0, 0)) :: ((b3, .cells #[(.int .i64 x1.Kind), (.int .i64 x1.Device), (.int .i64 x1.Request), (.int .i64 x1.Ticket), (.int .i64 x1.For), (.int .i64 x1.Until), (.int .i64 x1.Now)] 37 (0, 0)) :: L))))) := hO40
    refine sv (r_assign (v := .int _ _) rfl) ?_
    refine s_nil ?_
    refine c_next ?_
    refine c_seq ?_
    have hR0p := (hR0p.ext (e24.trans (e36.trans (e37.trans e40))))
    have hR1p := (hR1p.ext (e24.trans (e36.trans (e37.trans e40))))
    refine d_startL hO41 hO41.t.r.r 9 (by kernel_rfl) (pk_then pk_body) ?_
    intro hP70 wd70 hK70 hO69 e69
    refine dT (i := 0) (listed' := #[I_,O_,O_,O_,O_,O_,O_,O_,O_,O_]) rfl hP70 hK70 (fun wS hS => (rl_all Try.underlying27 rfl I27 rfl (hS.own.get (i := 0) rfl) rfl rfl)) ?_
    refine dT (i := 1) (listed' := #[I_,I_,O_,O_,O_,O_,O_,O_,O_,O_]) rfl hP70 hK70 (fun wS hS => (rl_all Try.underlying37 rfl I37 rfl (hS.own.get (i := 1) rfl) rfl rfl)) ?_
    refine d_two (i := 2) (j := 7) (l1 := #[I_,I_,I_,O_,O_,O_,O_,O_,O_,O_]) (l2 := #[I_,I_,O_,O_,O_,O_,O_,I_,O_,O_]) (by rfl) (by rfl) (by kernel_rfl) (by rfl) (by rfl) ?_ ?_
    · skip
      obtain ⟨y28, hy28, h⟩ := bindE h
      refine s_call cf19 rfl (c_opcode_Own x1 _ hy28 _ _ hO69) ?_
      rintro er28 w71 ⟨rfl, hO71, e71⟩
      refine ⟨_, rfl, ?_⟩
      have hK72 : Kept w40 _ _ w71 := Kept.to (e69.trans e71) hO71.t.r.r
      refine d_back hK72 ?_
      refine d_two (i := 3) (j := 7) (l1 := #[I_,I_,I_,I_,O_,O_,O_,O_,O_,O_]) (l2 := #[I_,I_,I_,O_,O_,O_,O_,I_,O_,O_]) (by rfl) (by rfl) (by kernel_rfl) (by rfl) (by rfl) ?_ ?_
      · skip
        obtain ⟨y29, hy29, h⟩ := bindE h
        refine s_call cf9 rfl (c_claim_Do x0 y28 aP0 mP0 cP0 aP1 mP1 cP1 _ hy29 _ _ hm0p hc0p (hR0p.ext (e69.trans e71)) hm1p hc1p (hR1p.ext (e69.trans e71)) hO71) ?_
        rintro er29 w73 ⟨a29_0, m29_0, c29_0, S29_0, a29_1, m29_1, c29_1, S29_1, rfl, hm29_0, hS29_0, hm29_1, hS29_1, hO73, e73⟩
        refine ⟨_, rfl, ?_⟩
        have hK74 : Kept w40 _ _ w73 := Kept.to (e69.trans (e71.trans e73)) hO73.r.r.t.r.r
        refine d_back hK74 ?_
        refine dT (i := 4) (listed' := #[I_,I_,I_,I_,I_,O_,O_,O_,O_,O_]) rfl hP70 hK74 (fun wS hS => (r_move (v := .tuple _) rfl)) ?_
        refine dT (i := 5) (listed' := #[I_,I_,I_,I_,I_,I_,O_,O_,O_,O_]) rfl hP70 hK74 (fun wS hS => (r_extract rfl rfl)) ?_
        refine dT (i := 6) (listed' := #[I_,I_,I_,I_,I_,I_,I_,O_,O_,O_]) rfl hP70 hK74 (fun wS hS => (r_extract rfl rfl)) ?_
        refine d1 (i := 7) (listed' := #[I_,I_,I_,I_,I_,I_,I_,I_,O_,O_]) ?_
        refine s_alloc I27 hO73 ?_
        intro b7 w75 hz7 hl7 hO75 e75
        have hO76 : Own w75 ((b7, .cells #[(.int .i64 0), (.int .i64 0), (.int .i64 0), (.slice none 0 0), (.slice none 0 0)] 27 (0, 0)) :: (S29_0 ++ (S29_1 ++ ((b5, .cells #[(.int .i64 y22.1.Epoch), (.int .i64 y22.1.Owner), (.int .i64 y22.1.Next), (.slice a22_0 m22_0 c22_0), (.slice a22_1 m22_1 c22_1)] 27 (0, 0)) :: (S22_0 ++ (S22_1 ++ ((b2, .cells #[(.int .i64 x0.Epoch), (.int .i64 x0.Owner), (.int .i64 x0.Next), (.slice aP0 mP0 cP0), (.slice aP1 mP1 cP1)] 27 (0, 0)) :: ((b3, .cells #[(.int .i64 x1.Kind), (.int .i64 x1.Device), (.int .i64 x1.Request), (.int .i64 x1.Ticket), (.int .i64 x1.For), (.int .i64 x1.Until), (.int .i64 x1.Now)] 37 (0, 0)) :: L)))))))) := hO75
        have hK78 : Kept w40 _ _ w75 := Kept.to (e69.trans (e71.trans (e73.trans e75))) hO76.t.r.r.t.r.r
        refine d_back hK78 ?_
        refine d1 (i := 8) (listed' := #[I_,I_,I_,I_,I_,I_,I_,I_,I_,O_]) ?_
        refine s_storeN (vs := #[(.int .i64 y29.1.Epoch), (.int .i64 y29.1.Owner), (.int .i64 y29.1.Next), (.slice a29_0 m29_0 c29_0), (.slice a29_1 m29_1 c29_1)]) I27 rfl rfl rfl hO76 (i := 0) rfl (Nat.le_of_ble_eq_true rfl) (List.all_eq_true.1 rfl) ?_
        intro w79 hO79 e79
        have hO80 : Own w79 ((b7, .cells #[(.int .i64 y29.1.Epoch), (.int .i64 y29.1.Owner), (.int .i64 y29.1.Next), (.slice a29_0 m29_0 c29_0), (.slice a29_1 m29_1 c29_1)] 27 (0, 0)) :: (S29_0 ++ (S29_1 ++ ((b5, .cells #[(.int .i64 y22.1.Epoch), (.int .i64 y22.1.Owner), (.int .i64 y22.1.Next), (.slice a22_0 m22_0 c22_0), (.slice a22_1 m22_1 c22_1)] 27 (0, 0)) :: (S22_0 ++ (S22_1 ++ ((b2, .cells #[(.int .i64 x0.Epoch), (.int .i64 x0.Owner), (.int .i64 x0.Next), (.slice aP0 mP0 cP0), (.slice aP1 mP1 cP1)] 27 (0, 0)) :: ((b3, .cells #[(.int .i64 x1.Kind), (.int .i64 x1.Device), (.int .i64 x1.Request), (.int .i64 x1.Ticket), (.int .i64 x1.For), (.int .i64 x1.Until), (.int .i64 x1.Now)] 37 (0, 0)) :: L)))))))) := hO79
        have hK82 : Kept w40 _ _ w79 := Kept.to (e69.trans (e71.trans (e73.trans (e75.trans e79)))) hO80.t.r.r.t.r.r
        refine d_back hK82 ?_
        refine d1 (i := 9) (listed' := #[I_,I_,I_,I_,I_,I_,I_,I_,I_,I_]) ?_
        refine sv (r_assign (v := .int _ _) rfl) ?_
        refine d_tail rfl ?_
        refine d_done (by kernel_rfl) ?_
        refine c_next ?_
        refine c_seq ?_
        refine c_reg ?_
        refine sv (r_move (v := .int _ _) rfl) ?_
        refine sv (r_move (v := .int _ _) rfl) ?_
        refine c_eql rfl rfl (fun h34 => ?_) (fun h34 => ?_)
        · replace h := iT h34 h
          refine sv (r_move (v := .bool true) rfl) ?_
          refine g_do 35 (by rfl) rfl ?_
          refine s_loadAll Try.underlying27 rfl I27 rfl ((hO80.perm (pmbC (pmbA (pmbA pmb0)))).get (i := 0) rfl) rfl rfl ?_
          refine g_do 35 (by rfl) rfl ?_
          refine s_loadAll Try.underlying27 rfl I27 rfl (hO80.get (i := 0) rfl) rfl rfl ?_
          refine g_do 35 (by rfl) rfl ?_
          obtain ⟨hO83, e83⟩ := hO80.permE (pmC (pmA pm0))
          obtain ⟨hO84, e84⟩ := hO83.permE (pmA (pmC pm0))
          obtain ⟨hO85, e85⟩ := hO84.permE (pmA (pmA (pmC (pmC (pmA pm0)))))
          obtain ⟨hO86, e86⟩ := hO85.permE (pmA (pmA (pmA (pmC (pmC pm0)))))
          have hR87 := (hS22_0.drop hO86).2.2
          obtain ⟨hO87, e87⟩ := hO86.dropS
          have hR88 := (hS22_1.drop hO87).2.2
          obtain ⟨hO88, e88⟩ := hO87.dropS
          have hR89 := (hS29_0.drop hO88).2.2
          obtain ⟨hO89, e89⟩ := hO88.dropS
          have hR90 := (hS29_1.drop hO89).2.2
          obtain ⟨hO90, e90⟩ := hO89.dropS
          obtain ⟨y38, hy38, h⟩ := bindE h
          refine s_call cf14 rfl (c_claim_Same ({ Epoch := y22.1.Epoch, Owner := y22.1.Owner, Next := y22.1.Next, Roster := y22.1.Roster, Tickets := y22.1.Tickets } : T_claim_State) ({ Epoch := y29.1.Epoch, Owner := y29.1.Owner, Next := y29.1.Next, Roster := y29.1.Roster, Tickets := y29.1.Tickets } : T_claim_State) a22_0 m22_0 c22_0 a22_1 m22_1 c22_1 a29_0 m29_0 c29_0 a29_1 m29_1 c29_1 _ hy38 _ _ hm22_0 hS22_0.le.1 (hR87.ext (e88.trans (e89.trans e90))) hm22_1 hS22_1.le.1 (hR88.ext (e89.trans e90)) hm29_0 hS29_0.le.1 (hR89.ext e90) hm29_1 hS29_1.le.1 hR90 hO90) ?_
          rintro er38 w91 ⟨rfl, hO91, e91⟩
          obtain ⟨hO92, e92⟩ := Own.lend hO89 hO91 e91
          obtain ⟨hO93, e93⟩ := Own.lend hO88 hO92 e92
          obtain ⟨hO94, e94⟩ := Own.lend hO87 hO93 e93
          obtain ⟨hO95, e95⟩ := Own.lend hO86 hO94 e94
          refine ⟨_, rfl, ?_⟩
          refine sv (r_pickT (v := .bool _) rfl rfl) ?_
          refine sv (r_assign (v := .bool _) rfl) ?_
          refine s_nil ?_
          refine c_next ?_
          refine c_ret ?_
          refine e_1 (v := .bool _) Try.results6 rfl ?_
          have hR96 := (hS22_0.drop hO95).2.2
          obtain ⟨hO96, e96⟩ := hO95.dropS
          have hR97 := (hS22_1.drop hO96).2.2
          obtain ⟨hO97, e97⟩ := hO96.dropS
          have hR98 := (hS29_0.drop hO97).2.2
          obtain ⟨hO98, e98⟩ := hO97.dropS
          have hR99 := (hS29_1.drop hO98).2.2
          obtain ⟨hO99, e99⟩ := hO98.dropS
          obtain ⟨hO100, e100⟩ := hO99.drop1
          obtain ⟨hO101, e101⟩ := hO100.drop1
          obtain ⟨hO102, e102⟩ := hO101.drop1
          obtain ⟨hO103, e103⟩ := hO102.drop1
          rw [← Option.some.inj h]
          exact ⟨rfl, hO103, (e3.trans (e6.trans (e12.trans (e24.trans (e36.trans (e37.trans (e40.trans (e69.trans (e71.trans (e73.trans (e75.trans (e79.trans (e83.trans (e84.trans (e85.trans (e86.trans (e95.trans (e96.trans (e97.trans (e98.trans (e99.trans (e100.trans (e101.trans (e102.trans e103))))))))))))))))))))))))⟩
        replace h := iF h34 h
        refine sv (r_move (v := .bool false) rfl) ?_
        refine g_skip 35 (by rfl) rfl (by rfl) ?_
        refine g_skip 35 (by rfl) rfl (by rfl) ?_
        refine g_skip 35 (by rfl) rfl (by rfl) ?_
        refine sv (r_pickF (v := .bool false) rfl rfl) ?_
        refine sv (r_assign (v := .bool false) rfl) ?_
        refine s_nil ?_
        refine c_next ?_
        refine c_ret ?_
        refine e_1 (v := .bool false) Try.results6 rfl ?_
        obtain ⟨hO104, e104⟩ := hO80.drop1
        have hR105 := (hS29_0.drop hO104).2.2
        obtain ⟨hO105, e105⟩ := hO104.dropS
        have hR106 := (hS29_1.drop hO105).2.2
        obtain ⟨hO106, e106⟩ := hO105.dropS
        obtain ⟨hO107, e107⟩ := hO106.drop1
        have hR108 := (hS22_0.drop hO107).2.2
        obtain ⟨hO108, e108⟩ := hO107.dropS
        have hR109 := (hS22_1.drop hO108).2.2
        obtain ⟨hO109, e109⟩ := hO108.dropS
        obtain ⟨hO110, e110⟩ := hO109.drop1
        obtain ⟨hO111, e111⟩ := hO110.drop1
        rw [← Option.some.inj h]
        exact ⟨rfl, hO111, (e3.trans (e6.trans (e12.trans (e24.trans (e36.trans (e37.trans (e40.trans (e69.trans (e71.trans (e73.trans (e75.trans (e79.trans (e104.trans (e105.trans (e106.trans (e107.trans (e108.trans (e109.trans (e110.trans e111)))))))))))))))))))⟩
      refine s_alloc I27 hO71 ?_
      intro b7 w112 hz7 hl7 hO112 e112
      have hO113 : Own w112 ((b7, .cells #[(.int .i64 0), (.int .i64 0), (.int .i64 0), (.slice none 0 0), (.slice none 0 0)] 27 (0, 0)) :: ((b5, .cells #[(.int .i64 y22.1.Epoch), (.int .i64 y22.1.Owner), (.int .i64 y22.1.Next), (.slice a22_0 m22_0 c22_0), (.slice a22_1 m22_1 c22_1)] 27 (0, 0)) :: (S22_0 ++ (S22_1 ++ ((b2, .cells #[(.int .i64 x0.Epoch), (.int .i64 x0.Owner), (.int .i64 x0.Next), (.slice aP0 mP0 cP0), (.slice aP1 mP1 cP1)] 27 (0, 0)) :: ((b3, .cells #[(.int .i64 x1.Kind), (.int .i64 x1.Device), (.int .i64 x1.Request), (.int .i64 x1.Ticket), (.int .i64 x1.For), (.int .i64 x1.Until), (.int .i64 x1.Now)] 37 (0, 0)) :: L)))))) := hO112
      have hK115 : Kept w40 _ _ w112 := Kept.to (e69.trans (e71.trans e112)) hO113.t.t.r.r
      refine d_back hK115 ?_
      refine d1 (i := 3) (listed' := #[I_,I_,I_,I_,O_,O_,O_,I_,O_,O_]) ?_
      obtain ⟨y29, hy29, h⟩ := bindE h
      refine s_call cf9 rfl (c_claim_Do x0 y28 aP0 mP0 cP0 aP1 mP1 cP1 _ hy29 _ _ hm0p hc0p (hR0p.ext (e69.trans (e71.trans e112))) hm1p hc1p (hR1p.ext (e69.trans (e71.trans e112))) hO113) ?_
      rintro er29 w116 ⟨a29_0, m29_0, c29_0, S29_0, a29_1, m29_1, c29_1, S29_1, rfl, hm29_0, hS29_0, hm29_1, hS29_1, hO116, e116⟩
      refine ⟨_, rfl, ?_⟩
      have hK117 : Kept w40 _ _ w116 := Kept.to (e69.trans (e71.trans (e112.trans e116))) hO116.r.r.t.t.r.r
      refine d_back hK117 ?_
      refine dT (i := 4) (listed' := #[I_,I_,I_,I_,I_,O_,O_,I_,O_,O_]) rfl hP70 hK117 (fun wS hS => (r_move (v := .tuple _) rfl)) ?_
      refine dT (i := 5) (listed' := #[I_,I_,I_,I_,I_,I_,O_,I_,O_,O_]) rfl hP70 hK117 (fun wS hS => (r_extract rfl rfl)) ?_
      refine dT (i := 6) (listed' := #[I_,I_,I_,I_,I_,I_,I_,I_,O_,O_]) rfl hP70 hK117 (fun wS hS => (r_extract rfl rfl)) ?_
      refine d1 (i := 8) (listed' := #[I_,I_,I_,I_,I_,I_,I_,I_,I_,O_]) ?_
      obtain ⟨hO119, e119⟩ := hO116.permE (pmbA (pmbA pmb0))
      refine s_storeN (vs := #[(.int .i64 y29.1.Epoch), (.int .i64 y29.1.Owner), (.int .i64 y29.1.Next), (.slice a29_0 m29_0 c29_0), (.slice a29_1 m29_1 c29_1)]) I27 rfl rfl rfl hO119 (i := 0) rfl (Nat.le_of_ble_eq_true rfl) (List.all_eq_true.1 rfl) ?_
      intro w118 hO118 e118
      have hO120 : Own w118 ((b7, .cells #[(.int .i64 y29.1.Epoch), (.int .i64 y29.1.Owner), (.int .i64 y29.1.Next), (.slice a29_0 m29_0 c29_0), (.slice a29_1 m29_1 c29_1)] 27 (0, 0)) :: (S29_0 ++ (S29_1 ++ ((b5, .cells #[(.int .i64 y22.1.Epoch), (.int .i64 y22.1.Owner), (.int .i64 y22.1.Next), (.slice a22_0 m22_0 c22_0), (.slice a22_1 m22_1 c22_1)] 27 (0, 0)) :: (S22_0 ++ (S22_1 ++ ((b2, .cells #[(.int .i64 x0.Epoch), (.int .i64 x0.Owner), (.int .i64 x0.Next), (.slice aP0 mP0 cP0), (.slice aP1 mP1 cP1)] 27 (0, 0)) :: ((b3, .cells #[(.int .i64 x1.Kind), (.int .i64 x1.Device), (.int .i64 x1.Request), (.int .i64 x1.Ticket), (.int .i64 x1.For), (.int .i64 x1.Until), (.int .i64 x1.Now)] 37 (0, 0)) :: L)))))))) := hO118
      have hK122 : Kept w40 _ _ w118 := Kept.to (e69.trans (e71.trans (e112.trans (e116.trans (e119.trans e118))))) hO120.t.r.r.t.r.r
      refine d_back hK122 ?_
      refine d1 (i := 9) (listed' := #[I_,I_,I_,I_,I_,I_,I_,I_,I_,I_]) ?_
      refine sv (r_assign (v := .int _ _) rfl) ?_
      refine d_tail rfl ?_
      refine d_done (by kernel_rfl) ?_
      refine c_next ?_
      refine c_seq ?_
      refine c_reg ?_
      refine sv (r_move (v := .int _ _) rfl) ?_
      refine sv (r_move (v := .int _ _) rfl) ?_
      refine c_eql rfl rfl (fun h34 => ?_) (fun h34 => ?_)
      · replace h := iT h34 h
        refine sv (r_move (v := .bool true) rfl) ?_
        refine g_do 35 (by rfl) rfl ?_
        refine s_loadAll Try.underlying27 rfl I27 rfl ((hO120.perm (pmbC (pmbA (pmbA pmb0)))).get (i := 0) rfl) rfl rfl ?_
        refine g_do 35 (by rfl) rfl ?_
        refine s_loadAll Try.underlying27 rfl I27 rfl (hO120.get (i := 0) rfl) rfl rfl ?_
        refine g_do 35 (by rfl) rfl ?_
        obtain ⟨hO123, e123⟩ := hO120.permE (pmC (pmA pm0))
        obtain ⟨hO124, e124⟩ := hO123.permE (pmA (pmC pm0))
        obtain ⟨hO125, e125⟩ := hO124.permE (pmA (pmA (pmC (pmC (pmA pm0)))))
        obtain ⟨hO126, e126⟩ := hO125.permE (pmA (pmA (pmA (pmC (pmC pm0)))))
        have hR127 := (hS22_0.drop hO126).2.2
        obtain ⟨hO127, e127⟩ := hO126.dropS
        have hR128 := (hS22_1.drop hO127).2.2
        obtain ⟨hO128, e128⟩ := hO127.dropS
        have hR129 := (hS29_0.drop hO128).2.2
        obtain ⟨hO129, e129⟩ := hO128.dropS
        have hR130 := (hS29_1.drop hO129).2.2
        obtain ⟨hO130, e130⟩ := hO129.dropS
        obtain ⟨y38, hy38, h⟩ := bindE h
        refine s_call cf14 rfl (c_claim_Same ({ Epoch := y22.1.Epoch, Owner := y22.1.Owner, Next := y22.1.Next, Roster := y22.1.Roster, Tickets := y22.1.Tickets } : T_claim_State) ({ Epoch := y29.1.Epoch, Owner := y29.1.Owner, Next := y29.1.Next, Roster := y29.1.Roster, Tickets := y29.1.Tickets } : T_claim_State) a22_0 m22_0 c22_0 a22_1 m22_1 c22_1 a29_0 m29_0 c29_0 a29_1 m29_1 c29_1 _ hy38 _ _ hm22_0 hS22_0.le.1 (hR127.ext (e128.trans (e129.trans e130))) hm22_1 hS22_1.le.1 (hR128.ext (e129.trans e130)) hm29_0 hS29_0.le.1 (hR129.ext e130) hm29_1 hS29_1.le.1 hR130 hO130) ?_
        rintro er38 w131 ⟨rfl, hO131, e131⟩
        obtain ⟨hO132, e132⟩ := Own.lend hO129 hO131 e131
        obtain ⟨hO133, e133⟩ := Own.lend hO128 hO132 e132
        obtain ⟨hO134, e134⟩ := Own.lend hO127 hO133 e133
        obtain ⟨hO135, e135⟩ := Own.lend hO126 hO134 e134
        refine ⟨_, rfl, ?_⟩
        refine sv (r_pickT (v := .bool _) rfl rfl) ?_
        refine sv (r_assign (v := .bool _) rfl) ?_
        refine s_nil ?_
        refine c_next ?_
        refine c_ret ?_
        refine e_1 (v := .bool _) Try.results6 rfl ?_
        have hR136 := (hS22_0.drop hO135).2.2
        obtain ⟨hO136, e136⟩ := hO135.dropS
        have hR137 := (hS22_1.drop hO136).2.2
        obtain ⟨hO137, e137⟩ := hO136.dropS
        have hR138 := (hS29_0.drop hO137).2.2
        obtain ⟨hO138, e138⟩ := hO137.dropS
        have hR139 := (hS29_1.drop hO138).2.2
        obtain ⟨hO139, e139⟩ := hO138.dropS
        obtain ⟨hO140, e140⟩ := hO139.drop1
        obtain ⟨hO141, e141⟩ := hO140.drop1
        obtain ⟨hO142, e142⟩ := hO141.drop1
        obtain ⟨hO143, e143⟩ := hO142.drop1
        rw [← Option.some.inj h]
        exact ⟨rfl, hO143, (e3.trans (e6.trans (e12.trans (e24.trans (e36.trans (e37.trans (e40.trans (e69.trans (e71.trans (e112.trans (e116.trans (e119.trans (e118.trans (e123.trans (e124.trans (e125.trans (e126.trans (e135.trans (e136.trans (e137.trans (e138.trans (e139.trans (e140.trans (e141.trans (e142.trans e143)))))))))))))))))))))))))⟩
      replace h := iF h34 h
      refine sv (r_move (v := .bool false) rfl) ?_
      refine g_skip 35 (by rfl) rfl (by rfl) ?_
      refine g_skip 35 (by rfl) rfl (by rfl) ?_
      refine g_skip 35 (by rfl) rfl (by rfl) ?_
      refine sv (r_pickF (v := .bool false) rfl rfl) ?_
      refine sv (r_assign (v := .bool false) rfl) ?_
      refine s_nil ?_
      refine c_next ?_
      refine c_ret ?_
      refine e_1 (v := .bool false) Try.results6 rfl ?_
      obtain ⟨hO144, e144⟩ := hO120.drop1
      have hR145 := (hS29_0.drop hO144).2.2
      obtain ⟨hO145, e145⟩ := hO144.dropS
      have hR146 := (hS29_1.drop hO145).2.2
      obtain ⟨hO146, e146⟩ := hO145.dropS
      obtain ⟨hO147, e147⟩ := hO146.drop1
      have hR148 := (hS22_0.drop hO147).2.2
      obtain ⟨hO148, e148⟩ := hO147.dropS
      have hR149 := (hS22_1.drop hO148).2.2
      obtain ⟨hO149, e149⟩ := hO148.dropS
      obtain ⟨hO150, e150⟩ := hO149.drop1
      obtain ⟨hO151, e151⟩ := hO150.drop1
      rw [← Option.some.inj h]
      exact ⟨rfl, hO151, (e3.trans (e6.trans (e12.trans (e24.trans (e36.trans (e37.trans (e40.trans (e69.trans (e71.trans (e112.trans (e116.trans (e119.trans (e118.trans (e144.trans (e145.trans (e146.trans (e147.trans (e148.trans (e149.trans (e150.trans e151))))))))))))))))))))⟩
    refine s_alloc I27 hO69 ?_
    intro b7 w152 hz7 hl7 hO152 e152
    have hO153 : Own w152 ((b7, .cells #[(.int .i64 0), (.int .i64 0), (.int .i64 0), (.slice none 0 0), (.slice none 0 0)] 27 (0, 0)) :: ((b5, .cells #[(.int .i64 y22.1.Epoch), (.int .i64 y22.1.Owner), (.int .i64 y22.1.Next), (.slice a22_0 m22_0 c22_0), (.slice a22_1 m22_1 c22_1)] 27 (0, 0)) :: (S22_0 ++ (S22_1 ++ ((b2, .cells #[(.int .i64 x0.Epoch), (.int .i64 x0.Owner), (.int .i64 x0.Next), (.slice aP0 mP0 cP0), (.slice aP1 mP1 cP1)] 27 (0, 0)) :: ((b3, .cells #[(.int .i64 x1.Kind), (.int .i64 x1.Device), (.int .i64 x1.Request), (.int .i64 x1.Ticket), (.int .i64 x1.For), (.int .i64 x1.Until), (.int .i64 x1.Now)] 37 (0, 0)) :: L)))))) := hO152
    have hK155 : Kept w40 _ _ w152 := Kept.to (e69.trans e152) hO153.t.t.r.r
    refine d_back hK155 ?_
    refine d1 (i := 2) (listed' := #[I_,I_,I_,O_,O_,O_,O_,I_,O_,O_]) ?_
    obtain ⟨y28, hy28, h⟩ := bindE h
    refine s_call cf19 rfl (c_opcode_Own x1 _ hy28 _ _ hO153) ?_
    rintro er28 w156 ⟨rfl, hO156, e156⟩
    refine ⟨_, rfl, ?_⟩
    have hK157 : Kept w40 _ _ w156 := Kept.to (e69.trans (e152.trans e156)) hO156.t.t.r.r
    refine d_back hK157 ?_
    refine d1 (i := 3) (listed' := #[I_,I_,I_,I_,O_,O_,O_,I_,O_,O_]) ?_
    obtain ⟨y29, hy29, h⟩ := bindE h
    refine s_call cf9 rfl (c_claim_Do x0 y28 aP0 mP0 cP0 aP1 mP1 cP1 _ hy29 _ _ hm0p hc0p (hR0p.ext (e69.trans (e152.trans e156))) hm1p hc1p (hR1p.ext (e69.trans (e152.trans e156))) hO156) ?_
    rintro er29 w158 ⟨a29_0, m29_0, c29_0, S29_0, a29_1, m29_1, c29_1, S29_1, rfl, hm29_0, hS29_0, hm29_1, hS29_1, hO158, e158⟩
    refine ⟨_, rfl, ?_⟩
    have hK159 : Kept w40 _ _ w158 := Kept.to (e69.trans (e152.trans (e156.trans e158))) hO158.r.r.t.t.r.r
    refine d_back hK159 ?_
    refine dT (i := 4) (listed' := #[I_,I_,I_,I_,I_,O_,O_,I_,O_,O_]) rfl hP70 hK159 (fun wS hS => (r_move (v := .tuple _) rfl)) ?_
    refine dT (i := 5) (listed' := #[I_,I_,I_,I_,I_,I_,O_,I_,O_,O_]) rfl hP70 hK159 (fun wS hS => (r_extract rfl rfl)) ?_
    refine dT (i := 6) (listed' := #[I_,I_,I_,I_,I_,I_,I_,I_,O_,O_]) rfl hP70 hK159 (fun wS hS => (r_extract rfl rfl)) ?_
    refine d1 (i := 8) (listed' := #[I_,I_,I_,I_,I_,I_,I_,I_,I_,O_]) ?_
    obtain ⟨hO161, e161⟩ := hO158.permE (pmbA (pmbA pmb0))
    refine s_storeN (vs := #[(.int .i64 y29.1.Epoch), (.int .i64 y29.1.Owner), (.int .i64 y29.1.Next), (.slice a29_0 m29_0 c29_0), (.slice a29_1 m29_1 c29_1)]) I27 rfl rfl rfl hO161 (i := 0) rfl (Nat.le_of_ble_eq_true rfl) (List.all_eq_true.1 rfl) ?_
    intro w160 hO160 e160
    have hO162 : Own w160 ((b7, .cells #[(.int .i64 y29.1.Epoch), (.int .i64 y29.1.Owner), (.int .i64 y29.1.Next), (.slice a29_0 m29_0 c29_0), (.slice a29_1 m29_1 c29_1)] 27 (0, 0)) :: (S29_0 ++ (S29_1 ++ ((b5, .cells #[(.int .i64 y22.1.Epoch), (.int .i64 y22.1.Owner), (.int .i64 y22.1.Next), (.slice a22_0 m22_0 c22_0), (.slice a22_1 m22_1 c22_1)] 27 (0, 0)) :: (S22_0 ++ (S22_1 ++ ((b2, .cells #[(.int .i64 x0.Epoch), (.int .i64 x0.Owner), (.int .i64 x0.Next), (.slice aP0 mP0 cP0), (.slice aP1 mP1 cP1)] 27 (0, 0)) :: ((b3, .cells #[(.int .i64 x1.Kind), (.int .i64 x1.Device), (.int .i64 x1.Request), (.int .i64 x1.Ticket), (.int .i64 x1.For), (.int .i64 x1.Until), (.int .i64 x1.Now)] 37 (0, 0)) :: L)))))))) := hO160
    have hK164 : Kept w40 _ _ w160 := Kept.to (e69.trans (e152.trans (e156.trans (e158.trans (e161.trans e160))))) hO162.t.r.r.t.r.r
    refine d_back hK164 ?_
    refine d1 (i := 9) (listed' := #[I_,I_,I_,I_,I_,I_,I_,I_,I_,I_]) ?_
    refine sv (r_assign (v := .int _ _) rfl) ?_
    refine d_tail rfl ?_
    refine d_done (by kernel_rfl) ?_
    refine c_next ?_
    refine c_seq ?_
    refine c_reg ?_
    refine sv (r_move (v := .int _ _) rfl) ?_
    refine sv (r_move (v := .int _ _) rfl) ?_
    refine c_eql rfl rfl (fun h34 => ?_) (fun h34 => ?_)
    · replace h := iT h34 h
      refine sv (r_move (v := .bool true) rfl) ?_
      refine g_do 35 (by rfl) rfl ?_
      refine s_loadAll Try.underlying27 rfl I27 rfl ((hO162.perm (pmbC (pmbA (pmbA pmb0)))).get (i := 0) rfl) rfl rfl ?_
      refine g_do 35 (by rfl) rfl ?_
      refine s_loadAll Try.underlying27 rfl I27 rfl (hO162.get (i := 0) rfl) rfl rfl ?_
      refine g_do 35 (by rfl) rfl ?_
      obtain ⟨hO165, e165⟩ := hO162.permE (pmC (pmA pm0))
      obtain ⟨hO166, e166⟩ := hO165.permE (pmA (pmC pm0))
      obtain ⟨hO167, e167⟩ := hO166.permE (pmA (pmA (pmC (pmC (pmA pm0)))))
      obtain ⟨hO168, e168⟩ := hO167.permE (pmA (pmA (pmA (pmC (pmC pm0)))))
      have hR169 := (hS22_0.drop hO168).2.2
      obtain ⟨hO169, e169⟩ := hO168.dropS
      have hR170 := (hS22_1.drop hO169).2.2
      obtain ⟨hO170, e170⟩ := hO169.dropS
      have hR171 := (hS29_0.drop hO170).2.2
      obtain ⟨hO171, e171⟩ := hO170.dropS
      have hR172 := (hS29_1.drop hO171).2.2
      obtain ⟨hO172, e172⟩ := hO171.dropS
      obtain ⟨y38, hy38, h⟩ := bindE h
      refine s_call cf14 rfl (c_claim_Same ({ Epoch := y22.1.Epoch, Owner := y22.1.Owner, Next := y22.1.Next, Roster := y22.1.Roster, Tickets := y22.1.Tickets } : T_claim_State) ({ Epoch := y29.1.Epoch, Owner := y29.1.Owner, Next := y29.1.Next, Roster := y29.1.Roster, Tickets := y29.1.Tickets } : T_claim_State) a22_0 m22_0 c22_0 a22_1 m22_1 c22_1 a29_0 m29_0 c29_0 a29_1 m29_1 c29_1 _ hy38 _ _ hm22_0 hS22_0.le.1 (hR169.ext (e170.trans (e171.trans e172))) hm22_1 hS22_1.le.1 (hR170.ext (e171.trans e172)) hm29_0 hS29_0.le.1 (hR171.ext e172) hm29_1 hS29_1.le.1 hR172 hO172) ?_
      rintro er38 w173 ⟨rfl, hO173, e173⟩
      obtain ⟨hO174, e174⟩ := Own.lend hO171 hO173 e173
      obtain ⟨hO175, e175⟩ := Own.lend hO170 hO174 e174
      obtain ⟨hO176, e176⟩ := Own.lend hO169 hO175 e175
      obtain ⟨hO177, e177⟩ := Own.lend hO168 hO176 e176
      refine ⟨_, rfl, ?_⟩
      refine sv (r_pickT (v := .bool _) rfl rfl) ?_
      refine sv (r_assign (v := .bool _) rfl) ?_
      refine s_nil ?_
      refine c_next ?_
      refine c_ret ?_
      refine e_1 (v := .bool _) Try.results6 rfl ?_
      have hR178 := (hS22_0.drop hO177).2.2
      obtain ⟨hO178, e178⟩ := hO177.dropS
      have hR179 := (hS22_1.drop hO178).2.2
      obtain ⟨hO179, e179⟩ := hO178.dropS
      have hR180 := (hS29_0.drop hO179).2.2
      obtain ⟨hO180, e180⟩ := hO179.dropS
      have hR181 := (hS29_1.drop hO180).2.2
      obtain ⟨hO181, e181⟩ := hO180.dropS
      obtain ⟨hO182, e182⟩ := hO181.drop1
      obtain ⟨hO183, e183⟩ := hO182.drop1
      obtain ⟨hO184, e184⟩ := hO183.drop1
      obtain ⟨hO185, e185⟩ := hO184.drop1
      rw [← Option.some.inj h]
      exact ⟨rfl, hO185, (e3.trans (e6.trans (e12.trans (e24.trans (e36.trans (e37.trans (e40.trans (e69.trans (e152.trans (e156.trans (e158.trans (e161.trans (e160.trans (e165.trans (e166.trans (e167.trans (e168.trans (e177.trans (e178.trans (e179.trans (e180.trans (e181.trans (e182.trans (e183.trans (e184.trans e185)))))))))))))))))))))))))⟩
    replace h := iF h34 h
    refine sv (r_move (v := .bool false) rfl) ?_
    refine g_skip 35 (by rfl) rfl (by rfl) ?_
    refine g_skip 35 (by rfl) rfl (by rfl) ?_
    refine g_skip 35 (by rfl) rfl (by rfl) ?_
    refine sv (r_pickF (v := .bool false) rfl rfl) ?_
    refine sv (r_assign (v := .bool false) rfl) ?_
    refine s_nil ?_
    refine c_next ?_
    refine c_ret ?_
    refine e_1 (v := .bool false) Try.results6 rfl ?_
    obtain ⟨hO186, e186⟩ := hO162.drop1
    have hR187 := (hS29_0.drop hO186).2.2
    obtain ⟨hO187, e187⟩ := hO186.dropS
    have hR188 := (hS29_1.drop hO187).2.2
    obtain ⟨hO188, e188⟩ := hO187.dropS
    obtain ⟨hO189, e189⟩ := hO188.drop1
    have hR190 := (hS22_0.drop hO189).2.2
    obtain ⟨hO190, e190⟩ := hO189.dropS
    have hR191 := (hS22_1.drop hO190).2.2
    obtain ⟨hO191, e191⟩ := hO190.dropS
    obtain ⟨hO192, e192⟩ := hO191.drop1
    obtain ⟨hO193, e193⟩ := hO192.drop1
    rw [← Option.some.inj h]
    exact ⟨rfl, hO193, (e3.trans (e6.trans (e12.trans (e24.trans (e36.trans (e37.trans (e40.trans (e69.trans (e152.trans (e156.trans (e158.trans (e161.trans (e160.trans (e186.trans (e187.trans (e188.trans (e189.trans (e190.trans (e191.trans (e192.trans e193))))))))))))))))))))⟩
  replace h := iF (nt hb13) h
  refine c_condT (congrArg Value.bool (nnf hb13)) ?_
  refine c_seq ?_
  refine c_reg ?_
  refine sv (r_assign (v := .bool false) rfl) ?_
  refine s_nil ?_
  refine c_next ?_
  refine c_ret ?_
  refine r_then ?_
  refine e_1 (v := .bool false) Try.results6 rfl ?_
  obtain ⟨hO194, e194⟩ := hO12.drop1
  obtain ⟨hO195, e195⟩ := hO194.drop1
  rw [← Option.some.inj h]
  exact ⟨rfl, hO195, (e3.trans (e6.trans (e12.trans (e194.trans e195))))⟩
end Go.Proofs.Ytbigpfenlmfhgaa
