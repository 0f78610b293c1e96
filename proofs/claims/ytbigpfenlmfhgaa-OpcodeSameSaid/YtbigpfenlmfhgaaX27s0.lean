/- A part of the proof that the row of the law holds of the program as translated: lemmas and contracts of its functions. -/
import Derived.Test.YtbigpfenlmfhgaaProg
import Derived.Test.YtbigpfenlmfhgaaAvI
import Derived.Test.YtbigpfenlmfhgaaX27p
set_option linter.unusedVariables false
set_option linter.unusedSimpArgs false
set_option maxRecDepth 10000
namespace Go.Proofs.Ytbigpfenlmfhgaa
open Go.GV Go.AV Go.RowKit
attribute [local irreducible] wpList
theorem I3 : TI Try.prog 3 (.int .i64 0) 1 8 := by unfold TI; kernel_rfl
theorem I4 : TI Try.prog 4 (.bool false) 1 1 := by unfold TI; kernel_rfl
theorem I24 : TI Try.prog 24 (.slice none 0 0) 1 24 := by unfold TI; kernel_rfl
theorem I25 : TI Try.prog 25 (.slice none 0 0) 1 24 := by unfold TI; kernel_rfl
theorem I27 : TI Try.prog 27 (.agg #[(.int .i64 0), (.int .i64 0), (.int .i64 0), (.slice none 0 0), (.slice none 0 0)]) 5 72 := by unfold TI; kernel_rfl
theorem I37 : TI Try.prog 37 (.agg #[(.int .i64 0), (.int .i64 0), (.int .i64 0), (.int .i64 0), (.int .i64 0), (.int .i64 0), (.int .i64 0)]) 7 56 := by unfold TI; kernel_rfl
theorem I56 : TI Try.prog 56 (.agg #[(.int .i64 0), (.int .i64 0), (.bool false), (.int .i64 0)]) 4 32 := by unfold TI; kernel_rfl
theorem I59 : TI Try.prog 59 (.agg #[(.int .i64 0), (.int .i64 0), (.int .i64 0)]) 3 24 := by unfold TI; kernel_rfl
theorem pl37 : PL Try.prog 37 #[(0, 1), (1, 1), (2, 1), (3, 1), (4, 1), (5, 1), (6, 1)] := ⟨_, Try.underlying37, fun w => by kernel_rfl⟩
theorem pl56 : PL Try.prog 56 #[(0, 1), (1, 1), (2, 1), (3, 1)] := ⟨_, Try.underlying56, fun w => by kernel_rfl⟩
theorem pl59 : PL Try.prog 59 #[(0, 1), (1, 1), (2, 1)] := ⟨_, Try.underlying59, fun w => by kernel_rfl⟩
theorem cf9 : ∀ (args : Array Value) (w : World), (callFunc 9 args).run Try.prog w = .ok (.enter 9 args) w := cf_of Try.func9 (by kernel_rfl) rfl
theorem cf14 : ∀ (args : Array Value) (w : World), (callFunc 14 args).run Try.prog w = .ok (.enter 14 args) w := cf_of Try.func14 (by kernel_rfl) rfl
theorem cf15 : ∀ (args : Array Value) (w : World), (callFunc 15 args).run Try.prog w = .ok (.enter 15 args) w := cf_of Try.func15 (by kernel_rfl) rfl
theorem cf16 : ∀ (args : Array Value) (w : World), (callFunc 16 args).run Try.prog w = .ok (.enter 16 args) w := cf_of Try.func16 (by kernel_rfl) rfl
theorem cf20 : ∀ (args : Array Value) (w : World), (callFunc 20 args).run Try.prog w = .ok (.enter 20 args) w := cf_of Try.func20 (by kernel_rfl) rfl
theorem cf21 : ∀ (args : Array Value) (w : World), (callFunc 21 args).run Try.prog w = .ok (.enter 21 args) w := cf_of Try.func21 (by kernel_rfl) rfl
theorem cf22 : ∀ (args : Array Value) (w : World), (callFunc 22 args).run Try.prog w = .ok (.enter 22 args) w := cf_of Try.func22 (by kernel_rfl) rfl
theorem cf23 : ∀ (args : Array Value) (w : World), (callFunc 23 args).run Try.prog w = .ok (.enter 23 args) w := cf_of Try.func23 (by kernel_rfl) rfl
theorem cf24 : ∀ (args : Array Value) (w : World), (callFunc 24 args).run Try.prog w = .ok (.enter 24 args) w := cf_of Try.func24 (by kernel_rfl) rfl
theorem cf25 : ∀ (args : Array Value) (w : World), (callFunc 25 args).run Try.prog w = .ok (.enter 25 args) w := cf_of Try.func25 (by kernel_rfl) rfl
theorem cf36 : ∀ (args : Array Value) (w : World), (callFunc 36 args).run Try.prog w = .ok (.enter 36 args) w := cf_of Try.func36 (by kernel_rfl) rfl
theorem cf37 : ∀ (args : Array Value) (w : World), (callFunc 37 args).run Try.prog w = .ok (.enter 37 args) w := cf_of Try.func37 (by kernel_rfl) rfl
theorem cf38 : ∀ (args : Array Value) (w : World), (callFunc 38 args).run Try.prog w = .ok (.enter 38 args) w := cf_of Try.func38 (by kernel_rfl) rfl
theorem cf39 : ∀ (args : Array Value) (w : World), (callFunc 39 args).run Try.prog w = .ok (.enter 39 args) w := cf_of Try.func39 (by kernel_rfl) rfl
theorem cf40 : ∀ (args : Array Value) (w : World), (callFunc 40 args).run Try.prog w = .ok (.enter 40 args) w := cf_of Try.func40 (by kernel_rfl) rfl
theorem cf43 : ∀ (args : Array Value) (w : World), (callFunc 43 args).run Try.prog w = .ok (.enter 43 args) w := cf_of Try.func43 (by kernel_rfl) rfl
theorem cf44 : ∀ (args : Array Value) (w : World), (callFunc 44 args).run Try.prog w = .ok (.enter 44 args) w := cf_of Try.func44 (by kernel_rfl) rfl
theorem cf45 : ∀ (args : Array Value) (w : World), (callFunc 45 args).run Try.prog w = .ok (.enter 45 args) w := cf_of Try.func45 (by kernel_rfl) rfl
theorem cf46 : ∀ (args : Array Value) (w : World), (callFunc 46 args).run Try.prog w = .ok (.enter 46 args) w := cf_of Try.func46 (by kernel_rfl) rfl
theorem cf47 : ∀ (args : Array Value) (w : World), (callFunc 47 args).run Try.prog w = .ok (.enter 47 args) w := cf_of Try.func47 (by kernel_rfl) rfl
theorem cf48 : ∀ (args : Array Value) (w : World), (callFunc 48 args).run Try.prog w = .ok (.enter 48 args) w := cf_of Try.func48 (by kernel_rfl) rfl
theorem cf54 : ∀ (args : Array Value) (w : World), (callFunc 54 args).run Try.prog w = .ok (.enter 54 args) w := cf_of Try.func54 (by kernel_rfl) rfl
theorem cf60 : ∀ (args : Array Value) (w : World), (callFunc 60 args).run Try.prog w = .ok (.enter 60 args) w := cf_of Try.func60 (by kernel_rfl) rfl
theorem cf61 : ∀ (args : Array Value) (w : World), (callFunc 61 args).run Try.prog w = .ok (.enter 61 args) w := cf_of Try.func61 (by kernel_rfl) rfl
theorem cf62 : ∀ (args : Array Value) (w : World), (callFunc 62 args).run Try.prog w = .ok (.enter 62 args) w := cf_of Try.func62 (by kernel_rfl) rfl
theorem cf65 : ∀ (args : Array Value) (w : World), (callFunc 65 args).run Try.prog w = .ok (.enter 65 args) w := cf_of Try.func65 (by kernel_rfl) rfl
theorem cf66 : ∀ (args : Array Value) (w : World), (callFunc 66 args).run Try.prog w = .ok (.enter 66 args) w := cf_of Try.func66 (by kernel_rfl) rfl
theorem cf67 : ∀ (args : Array Value) (w : World), (callFunc 67 args).run Try.prog w = .ok (.enter 67 args) w := cf_of Try.func67 (by kernel_rfl) rfl
theorem cf68 : ∀ (args : Array Value) (w : World), (callFunc 68 args).run Try.prog w = .ok (.enter 68 args) w := cf_of Try.func68 (by kernel_rfl) rfl
theorem cf69 : ∀ (args : Array Value) (w : World), (callFunc 69 args).run Try.prog w = .ok (.enter 69 args) w := cf_of Try.func69 (by kernel_rfl) rfl
theorem cf70 : ∀ (args : Array Value) (w : World), (callFunc 70 args).run Try.prog w = .ok (.enter 70 args) w := cf_of Try.func70 (by kernel_rfl) rfl
theorem cf71 : ∀ (args : Array Value) (w : World), (callFunc 71 args).run Try.prog w = .ok (.enter 71 args) w := cf_of Try.func71 (by kernel_rfl) rfl
theorem cf76 : ∀ (args : Array Value) (w : World), (callFunc 76 args).run Try.prog w = .ok (.enter 76 args) w := cf_of Try.func76 (by kernel_rfl) rfl
theorem cf78 : ∀ (args : Array Value) (w : World), (callFunc 78 args).run Try.prog w = .ok (.enter 78 args) w := cf_of Try.func78 (by kernel_rfl) rfl
theorem cf79 : ∀ (args : Array Value) (w : World), (callFunc 79 args).run Try.prog w = .ok (.enter 79 args) w := cf_of Try.func79 (by kernel_rfl) rfl
def e_roster_Device (x : T_roster_Device) : List Value := [.int .i64 x.Id, .int .i64 x.Times, .bool x.Gone, .int .i64 x.Last]
theorem e_roster_Device_len (x : T_roster_Device) : (e_roster_Device x).length = 4 := rfl
theorem e_roster_Device1 (x : T_roster_Device) : ∀ u ∈ e_roster_Device x, u.oneCell' = true := by simp [e_roster_Device, Value.oneCell']
def e_ticket_Ticket (x : T_ticket_Ticket) : List Value := [.int .i64 x.No, .int .i64 x.For, .int .i64 x.Until]
theorem e_ticket_Ticket_len (x : T_ticket_Ticket) : (e_ticket_Ticket x).length = 3 := rfl
theorem e_ticket_Ticket1 (x : T_ticket_Ticket) : ∀ u ∈ e_ticket_Ticket x, u.oneCell' = true := by simp [e_ticket_Ticket, Value.oneCell']
def e_claim_Op (x : T_claim_Op) : List Value := [.int .i64 x.Kind, .int .i64 x.Device, .int .i64 x.Request, .int .i64 x.Ticket, .int .i64 x.For, .int .i64 x.Until, .int .i64 x.Now]
theorem eq_56 (D : Nat) (w : World) (x y : T_roster_Device) : (Op.equalIn (D + 9) 56 (.agg #[.int .i64 x.Id, .int .i64 x.Times, .bool x.Gone, .int .i64 x.Last]) (.agg #[.int .i64 y.Id, .int .i64 y.Times, .bool y.Gone, .int .i64 y.Last])).run Try.prog w = .ok (decide (x = y)) w := by
  have h : (Op.equalIn (D + 8 + 1) 56 (.agg #[.int .i64 x.Id, .int .i64 x.Times, .bool x.Gone, .int .i64 x.Last]) (.agg #[.int .i64 y.Id, .int .i64 y.Times, .bool y.Gone, .int .i64 y.Last])).run Try.prog w = .ok (decide (x.Id = y.Id) && (decide (x.Times = y.Times) && (decide (x.Gone = y.Gone) && (decide (x.Last = y.Last) && true)))) w := by
    refine eqA_of Try.underlying56 (by kernel_rfl) ?_
    refine eqf_cons (by rfl) (part1 Try.underlying3 rfl rfl) (part1 Try.underlying3 rfl rfl) (eqi Try.underlying3) ?_
    refine eqf_cons (by rfl) (part1 Try.underlying3 rfl rfl) (part1 Try.underlying3 rfl rfl) (eqi Try.underlying3) ?_
    refine eqf_cons (by rfl) (part1 Try.underlying4 rfl rfl) (part1 Try.underlying4 rfl rfl) (eqb Try.underlying4) ?_
    refine eqf_cons (by rfl) (part1 Try.underlying3 rfl rfl) (part1 Try.underlying3 rfl rfl) (eqi Try.underlying3) ?_
    exact eqf_nil
  rw [show D + 9 = D + 8 + 1 from rfl, h]
  congr 1
  cases x
  cases y
  simp [Bool.decide_and]
theorem eq_59 (D : Nat) (w : World) (x y : T_ticket_Ticket) : (Op.equalIn (D + 9) 59 (.agg #[.int .i64 x.No, .int .i64 x.For, .int .i64 x.Until]) (.agg #[.int .i64 y.No, .int .i64 y.For, .int .i64 y.Until])).run Try.prog w = .ok (decide (x = y)) w := by
  have h : (Op.equalIn (D + 8 + 1) 59 (.agg #[.int .i64 x.No, .int .i64 x.For, .int .i64 x.Until]) (.agg #[.int .i64 y.No, .int .i64 y.For, .int .i64 y.Until])).run Try.prog w = .ok (decide (x.No = y.No) && (decide (x.For = y.For) && (decide (x.Until = y.Until) && true))) w := by
    refine eqA_of Try.underlying59 (by kernel_rfl) ?_
    refine eqf_cons (by rfl) (part1 Try.underlying3 rfl rfl) (part1 Try.underlying3 rfl rfl) (eqi Try.underlying3) ?_
    refine eqf_cons (by rfl) (part1 Try.underlying3 rfl rfl) (part1 Try.underlying3 rfl rfl) (eqi Try.underlying3) ?_
    refine eqf_cons (by rfl) (part1 Try.underlying3 rfl rfl) (part1 Try.underlying3 rfl rfl) (eqi Try.underlying3) ?_
    exact eqf_nil
  rw [show D + 9 = D + 8 + 1 from rfl, h]
  congr 1
  cases x
  cases y
  simp [Bool.decide_and]
theorem c_slices_Clone_roster_Device (x0 : (List T_roster_Device)) (aP0 : Option Addr) (mP0 cP0 : Nat)  (r : (List T_roster_Device)) (h : F_slices_Clone_roster_Device x0 = some r) (w : World) (L : Hp) (hm0p : x0.length = mP0) (hc0p : mP0 ≤ cP0) (hR0p : Rd w L aP0 (fl e_roster_Device x0)) (hO : Own w L) :
    Calls Try.prog 24 #[(.slice aP0 mP0 cP0)] w fun en w' => ∃ (ra0 : Option Addr) (rm0 rc0 : Nat) (rS0 : Hp), en = .returned (.slice ra0 rm0 rc0) ∧ r.length = rm0 ∧ OwnSl 56 4 ra0 rm0 rc0 (fl e_roster_Device r) rS0 ∧ Own w' (rS0 ++ L) ∧ Ext w L w' (rS0 ++ L) := by
  unfold F_slices_Clone_roster_Device at h
  refine enter (n := 8) [(.slice aP0 mP0 cP0)] Try.func24 rfl rfl (Nat.le_of_ble_eq_true rfl) ?_
  refine c_seq ?_
  refine c_reg ?_
  refine sv (r_assign (v := .slice _ _ _) rfl) ?_
  refine s_nil ?_
  refine c_next ?_
  refine c_seq ?_
  refine c_seq ?_
  refine c_reg ?_
  refine sv (r_move (v := .slice _ _ _) rfl) ?_
  refine sv (r_sl_eql Try.underlying24 rfl rfl) ?_
  rcases Bool.eq_false_or_eq_true (aP0).isNone with hb1 | hb1
  · have hx_ := nil_row e_roster_Device_len (by decide) hb1 hR0p
    rw [hb1]
    replace h : (some []) = some r := by rw [hx_] at h; simpa [appO] using h
    refine s_nil ?_
    refine c_next ?_
    refine c_condT rfl ?_
    refine c_seq ?_
    refine c_reg ?_
    refine sv (r_assign (v := .slice _ _ _) rfl) ?_
    refine s_nil ?_
    refine c_next ?_
    refine c_ret ?_
    refine r_then ?_
    refine e_1 (v := .slice _ _ _) Try.results24 rfl ?_
    rw [← Option.some.inj h]
    exact ⟨none, 0, 0, [], rfl, rfl, (OwnSl.nil _ _), hO, (Ext.refl _ _)⟩
  rw [hb1]
  refine s_nil ?_
  refine c_next ?_
  refine c_condF rfl ?_
  refine c_skip ?_
  refine c_next ?_
  refine c_seq ?_
  refine c_reg ?_
  refine a_lit (en := e_roster_Device) (xs := []) (vs := []) Try.underlying24 I56 hO rfl rfl (by simp [Value.cells]) (by decide) rfl e_roster_Device_len rfl (by decide) ?_
  intro a5 m5 c5 S5 w3 hm5 hS5 hO3 e3
  refine sv (r_move (v := .slice _ _ _) rfl) ?_
  obtain ⟨y7, hy7, h⟩ := bindE h
  refine a_append (e := e_roster_Device) (xs := []) (ys := x0) Try.underlying24 I56 rfl (by decide) (by decide) rfl rfl hS5 hO3 (Rd.cs (hR0p.ext e3)) e_roster_Device_len e_roster_Device1 hm5 hm0p hy7 ?_
  intro a7 m7 c7 S7a w4 hm7 hS7a hO4 e4
  refine sv (r_assign (v := .slice _ _ _) rfl) ?_
  refine s_nil ?_
  refine c_next ?_
  refine c_ret ?_
  refine e_1 (v := .slice _ _ _) Try.results24 rfl ?_
  rw [← Option.some.inj h]
  exact ⟨a7, m7, c7, S7a, rfl, hm7, hS7a, hO4, (e3.trans e4)⟩
theorem c_slices_BinarySearchFunc_int (x0 : (List T_roster_Device)) (x1 : Int) (x2 : (T_roster_Device → Int → Option Int)) (aP0 : Option Addr) (mP0 cP0 : Nat) (gP2 : FuncId) (fP2 kP2 : List Value) (InvP2 : World → Hp → Prop) (hcfP2 : ∀ (args : Array Value) (w : World), (callFunc gP2 args).run Try.prog w = .ok (.enter gP2 args) w) (hIxP2 : ∀ {w w' : World} {L L' : Hp}, InvP2 w L → Ext w L w' L' → InvP2 w' L') (hclP2 : ∀ (z0 : T_roster_Device) (z1 : Int) (r : Int) (w : World) (L : Hp), x2 z0 z1 = some r → InvP2 w L → Own w L → Calls Try.prog gP2 (fP2 ++ ([(.agg #[(.int .i64 z0.Id), (.int .i64 z0.Times), (.bool z0.Gone), (.int .i64 z0.Last)]), (.int .i64 z1)] : List Value) ++ kP2).toArray w fun en w' => en = .returned (.int .i64 r) ∧ Own w' L ∧ Ext w L w' L) (r : (Int × Bool)) (h : F_slices_BinarySearchFunc_int x0 x1 x2 = some r) (w : World) (L : Hp) (hm0p : x0.length = mP0) (hc0p : mP0 ≤ cP0) (hR0p : Rd w L aP0 (fl e_roster_Device x0)) (hIP2 : InvP2 w L) (hO : Own w L) :
    Calls Try.prog 60 #[(.slice aP0 mP0 cP0), (.int .i64 x1), (.func (.func gP2) fP2.toArray kP2.toArray)] w fun en w' => en = .returned (.tuple #[(.int .i64 r.1), (.bool r.2)]) ∧ Own w' L ∧ Ext w L w' L := by
  unfold F_slices_BinarySearchFunc_int at h
  refine enter (n := 49) [(.slice aP0 mP0 cP0), (.int .i64 x1), (.func (.func gP2) fP2.toArray kP2.toArray)] Try.func60 rfl rfl (Nat.le_of_ble_eq_true rfl) ?_
  refine c_seq ?_
  refine c_reg ?_
  refine sv (r_assign (v := .int _ _) rfl) ?_
  refine sv (r_assign (v := .bool false) rfl) ?_
  refine s_nil ?_
  refine c_next ?_
  refine c_seq ?_
  refine c_reg ?_
  refine sv (r_move (v := .slice _ _ _) rfl) ?_
  refine sv (r_lenL (xs := x0) Try.underlying24 rfl hm0p) ?_
  refine sv (r_assign (v := .int _ _) rfl) ?_
  refine s_nil ?_
  refine c_next ?_
  refine c_seq ?_
  refine c_reg ?_
  refine sv (r_move (v := .int _ _) rfl) ?_
  refine sv (r_assign (v := .int _ _) rfl) ?_
  refine sv (r_assign (v := .int _ _) rfl) ?_
  refine s_nil ?_
  refine c_next ?_
  refine c_seq ?_
  refine c_block ?_
  obtain ⟨kl17, hkl17⟩ := loop_iff.1 h
  clear h
  refine c_loopL hO (fun Lc f0 m g wl => ∃ (xl1_t9 : Int) (xl1_t10 : Int), (iterK (slices_BinarySearchFunc_int_l1 x0 x1 x2) m (xl1_t9, xl1_t10) = some r) ∧ g 0 = (.slice aP0 mP0 cP0) ∧ g 1 = (.int .i64 x1) ∧ g 2 = (.func (.func gP2) fP2.toArray kP2.toArray) ∧ g 8 = (.int .i64 ((x0.length : Int))) ∧ g 9 = (.int .i64 xl1_t9) ∧ g 10 = (.int .i64 xl1_t10) ∧ Own wl L ∧ Ext w Lc wl L) kl17 ?_ ?_
  · skip
    exact ⟨0, (x0.length : Int), hkl17, rfl, rfl, rfl, rfl, rfl, rfl, hO, (Ext.refl _ _)⟩
  clear hkl17
  intro mm17 gg17 w17 hI17
  obtain ⟨xl1_t9, xl1_t10, hkl17, hsl1_0, hsl1_1, hsl1_2, hsl1_8, hsl1_9, hsl1_10, hO17, e17⟩ := hI17
  obtain ⟨kl17, yl17, rfl, h, hyl17⟩ := iterE hkl17
  clear hkl17
  obtain ⟨qq17, rfl⟩ := fr6 hsl1_0 hsl1_1 hsl1_2 hsl1_8 hsl1_9 hsl1_10
  clear hsl1_0 hsl1_1 hsl1_2 hsl1_8 hsl1_9 hsl1_10
  refine c_seq ?_
  have hR0p := (hR0p.ext e17)
  have hIP2 := (hIxP2 hIP2 e17)
  obtain ⟨oc18, G18, hG18, h, hr18⟩ := bindG h
  refine c_cutL hO17 (fun Lc f0 g w' => ∃ (xc2_t17 : Bool), (G18 xc2_t17 = some yl17) ∧ g 0 = (.slice aP0 mP0 cP0) ∧ g 1 = (.int .i64 x1) ∧ g 2 = (.func (.func gP2) fP2.toArray kP2.toArray) ∧ g 8 = (.int .i64 ((x0.length : Int))) ∧ g 9 = (.int .i64 xl1_t9) ∧ g 10 = (.int .i64 xl1_t10) ∧ g 17 = (.bool xc2_t17) ∧ Own w' L ∧ Ext w17 Lc w' L) ?_ ?_
  · skip
    refine c_reg ?_
    refine sv (r_move (v := .int _ _) rfl) ?_
    refine sv (r_move (v := .int _ _) rfl) ?_
    refine c_lss rfl rfl (fun h17 => ?_) (fun h17 => ?_)
    · replace h := iT h17 h
      refine s_nil ?_
      refine c_next ?_
      rw [← Option.some.inj h] at hr18
      exact ⟨_, rfl, true, hr18, rfl, rfl, rfl, rfl, rfl, rfl, rfl, hO17, (Ext.refl _ _)⟩
    replace h := iF (Int.not_lt.2 h17) h
    refine s_nil ?_
    refine c_next ?_
    rw [← Option.some.inj h] at hr18
    exact ⟨_, rfl, false, hr18, rfl, rfl, rfl, rfl, rfl, rfl, rfl, hO17, (Ext.refl _ _)⟩
  intro gg18 w18 hI18
  clear h hr18
  obtain ⟨xc2_t17, h, hsc2_0, hsc2_1, hsc2_2, hsc2_8, hsc2_9, hsc2_10, hsc2_17, hO18, e18⟩ := hI18
  replace h := hG_ hG18 h; clear hG18
  obtain ⟨qq18, rfl⟩ := fr7 hsc2_0 hsc2_1 hsc2_2 hsc2_8 hsc2_9 hsc2_10 hsc2_17
  clear hsc2_0 hsc2_1 hsc2_2 hsc2_8 hsc2_9 hsc2_10 hsc2_17
  rcases Bool.eq_false_or_eq_true (xc2_t17) with hb19 | hb19
  · replace h := iT hb19 h
    refine c_condT (congrArg Value.bool hb19) ?_
    refine c_skip ?_
    refine c_next ?_
    refine c_block ?_
    refine c_seq ?_
    refine c_reg ?_
    refine sv (r_move (v := .int _ _) rfl) ?_
    refine sv (r_move (v := .int _ _) rfl) ?_
    refine sv (r_addI (a := xl1_t9) (b := xl1_t10) rfl rfl) ?_
    refine sv (r_cvI64 (a := ((w64 (xl1_t9 + xl1_t10)))) Try.underlying3 Try.underlying115 rfl) ?_
    refine sv (r_shr64 ((UInt64.ofInt ((w64 (xl1_t9 + xl1_t10))))) (b := 1) rfl rfl (by decide)) ?_
    refine sv (r_cv64I ((UInt64.ofNat (((UInt64.ofInt ((w64 (xl1_t9 + xl1_t10))))).toNat / 2 ^ (min (1 : Int).toNat 64)))) Try.underlying115 Try.underlying3 rfl) ?_
    refine sv (r_assign (v := .int _ _) rfl) ?_
    refine s_nil ?_
    refine c_next ?_
    have hR0p := (hR0p.ext e18)
    have hIP2 := (hIxP2 hIP2 e18)
    obtain ⟨oc22, G22, hG22, h, hr22⟩ := bindG h
    refine c_cutL hO18 (fun Lc f0 g w' => ∃ (xc3_t31 : Bool), (G22 xc3_t31 = some yl17) ∧ g 0 = (.slice aP0 mP0 cP0) ∧ g 1 = (.int .i64 x1) ∧ g 2 = (.func (.func gP2) fP2.toArray kP2.toArray) ∧ g 8 = (.int .i64 ((x0.length : Int))) ∧ g 9 = (.int .i64 xl1_t9) ∧ g 10 = (.int .i64 xl1_t10) ∧ g 11 = (.int .i64 ((w64 (((UInt64.ofNat (((UInt64.ofInt ((w64 (xl1_t9 + xl1_t10))))).toNat / 2 ^ (min (1 : Int).toNat 64)))).toNat : Int)))) ∧ g 31 = (.bool xc3_t31) ∧ Own w' L ∧ Ext w18 Lc w' L) ?_ ?_
    · skip
      refine c_reg ?_
      refine sv (r_move (v := .func _ _ _) rfl) ?_
      refine sv (r_move (v := .slice _ _ _) rfl) ?_
      refine sv (r_move (v := .int _ _) rfl) ?_
      obtain ⟨y27, hy27, h⟩ := bindE h
      refine a_idx (e := e_roster_Device) (xs := x0) (i := (w64 (((UInt64.ofNat (((UInt64.ofInt ((w64 (xl1_t9 + xl1_t10))))).toNat / 2 ^ (min (1 : Int).toNat 64)))).toNat : Int))) Try.underlying24 I56 rfl rfl (Rd.cs hR0p) e_roster_Device_len (by decide) hm0p hy27 ?_
      intro p27 hp27
      refine s_loadN (cs := [(.int .i64 y27.Id), (.int .i64 y27.Times), (.bool y27.Gone), (.int .i64 y27.Last)]) Try.underlying56 rfl I56 rfl rfl hp27 ?_
      refine sv (r_move (v := .int _ _) rfl) ?_
      obtain ⟨y30, hy30, h⟩ := bindE h
      refine s_callV (fv := fP2) (cv := kP2) hcfP2 rfl rfl (hclP2 y27 x1 _ _ _ hy30 hIP2 hO18) ?_
      rintro er30 w23 ⟨rfl, hO23, e23⟩
      refine ⟨_, rfl, ?_⟩
      refine c_lss rfl rfl (fun h31 => ?_) (fun h31 => ?_)
      · replace h := iT h31 h
        refine s_nil ?_
        refine c_next ?_
        rw [← Option.some.inj h] at hr22
        exact ⟨_, rfl, true, hr22, rfl, rfl, rfl, rfl, rfl, rfl, rfl, rfl, hO23, e23⟩
      replace h := iF (Int.not_lt.2 h31) h
      refine s_nil ?_
      refine c_next ?_
      rw [← Option.some.inj h] at hr22
      exact ⟨_, rfl, false, hr22, rfl, rfl, rfl, rfl, rfl, rfl, rfl, rfl, hO23, e23⟩
    intro gg22 w22 hI22
    clear h hr22
    obtain ⟨xc3_t31, h, hsc3_0, hsc3_1, hsc3_2, hsc3_8, hsc3_9, hsc3_10, hsc3_11, hsc3_31, hO22, e22⟩ := hI22
    replace h := hG_ hG22 h; clear hG22
    obtain ⟨qq22, rfl⟩ := fr8 hsc3_0 hsc3_1 hsc3_2 hsc3_8 hsc3_9 hsc3_10 hsc3_11 hsc3_31
    clear hsc3_0 hsc3_1 hsc3_2 hsc3_8 hsc3_9 hsc3_10 hsc3_11 hsc3_31
    rcases Bool.eq_false_or_eq_true (xc3_t31) with hb24 | hb24
    · replace h := iT hb24 h
      refine c_condT (congrArg Value.bool hb24) ?_
      refine c_reg ?_
      refine sv (r_move (v := .int _ _) rfl) ?_
      refine sv (r_addI (a := ((w64 (((UInt64.ofNat (((UInt64.ofInt ((w64 (xl1_t9 + xl1_t10))))).toNat / 2 ^ (min (1 : Int).toNat 64)))).toNat : Int)))) (b := 1) rfl rfl) ?_
      refine sv (r_assign (v := .int _ _) rfl) ?_
      refine s_nil ?_
      refine x_norm ?_
      refine l_end (m' := kl17) (Nat.lt_succ_self _) ?_
      rw [← Option.some.inj h] at hyl17
      exact ⟨(w64 (((w64 (((UInt64.ofNat (((UInt64.ofInt ((w64 (xl1_t9 + xl1_t10))))).toNat / 2 ^ (min (1 : Int).toNat 64)))).toNat : Int))) + 1)), xl1_t10, hyl17, rfl, rfl, rfl, rfl, rfl, rfl, hO22, (e17.trans (e18.trans e22))⟩
    replace h := iF (nt hb24) h
    refine c_condF (congrArg Value.bool hb24) ?_
    refine c_reg ?_
    refine sv (r_move (v := .int _ _) rfl) ?_
    refine sv (r_assign (v := .int _ _) rfl) ?_
    refine s_nil ?_
    refine x_norm ?_
    refine l_end (m' := kl17) (Nat.lt_succ_self _) ?_
    rw [← Option.some.inj h] at hyl17
    exact ⟨xl1_t9, (w64 (((UInt64.ofNat (((UInt64.ofInt ((w64 (xl1_t9 + xl1_t10))))).toNat / 2 ^ (min (1 : Int).toNat 64)))).toNat : Int)), hyl17, rfl, rfl, rfl, rfl, rfl, rfl, hO22, (e17.trans (e18.trans e22))⟩
  replace h := iF (nt hb19) h
  refine c_condF (congrArg Value.bool hb19) ?_
  refine c_exit ?_
  refine x_then ?_
  refine x_then ?_
  refine x_same ?_
  replace h := crossE h hyl17
  refine c_next ?_
  refine c_seq ?_
  refine c_reg ?_
  refine sv (r_move (v := .int _ _) rfl) ?_
  refine sv (r_move (v := .int _ _) rfl) ?_
  refine sv (r_move (v := .int _ _) rfl) ?_
  refine c_lss rfl rfl (fun h38 => ?_) (fun h38 => ?_)
  · replace h := iT h38 h
    refine sv (r_move (v := .bool true) rfl) ?_
    refine g_do 39 (by rfl) rfl ?_
    refine sv (r_move (v := .func _ _ _) rfl) ?_
    refine g_do 39 (by rfl) rfl ?_
    refine sv (r_move (v := .slice _ _ _) rfl) ?_
    refine g_do 39 (by rfl) rfl ?_
    refine sv (r_move (v := .int _ _) rfl) ?_
    refine g_do 39 (by rfl) rfl ?_
    obtain ⟨y43, hy43, h⟩ := bindE h
    refine a_idx (e := e_roster_Device) (xs := x0) (i := xl1_t9) Try.underlying24 I56 rfl rfl (Rd.cs (hR0p.ext e18)) e_roster_Device_len (by decide) hm0p hy43 ?_
    intro p43 hp43
    refine g_do 39 (by rfl) rfl ?_
    refine s_loadN (cs := [(.int .i64 y43.Id), (.int .i64 y43.Times), (.bool y43.Gone), (.int .i64 y43.Last)]) Try.underlying56 rfl I56 rfl rfl hp43 ?_
    refine g_do 39 (by rfl) rfl ?_
    refine sv (r_move (v := .int _ _) rfl) ?_
    refine g_do 39 (by rfl) rfl ?_
    obtain ⟨y46, hy46, h⟩ := bindE h
    refine s_callV (fv := fP2) (cv := kP2) hcfP2 rfl rfl (hclP2 y43 x1 _ _ _ hy46 (hIxP2 hIP2 e18) hO18) ?_
    rintro er46 w25 ⟨rfl, hO25, e25⟩
    refine ⟨_, rfl, ?_⟩
    refine g_do 39 (by rfl) rfl ?_
    refine c_eql rfl rfl (fun h47 => ?_) (fun h47 => ?_)
    · replace h := iT h47 h
      refine sv (r_pickT (v := .bool true) rfl rfl) ?_
      refine sv (r_assign (v := .int _ _) rfl) ?_
      refine sv (r_assign (v := .bool true) rfl) ?_
      refine s_nil ?_
      refine c_next ?_
      refine c_ret ?_
      refine e_2 (v := .int _ _) (v' := .bool true) Try.results60 rfl rfl ?_
      rw [← Option.some.inj h]
      exact ⟨rfl, hO25, (e17.trans (e18.trans e25))⟩
    replace h := iF h47 h
    refine sv (r_pickT (v := .bool false) rfl rfl) ?_
    refine sv (r_assign (v := .int _ _) rfl) ?_
    refine sv (r_assign (v := .bool false) rfl) ?_
    refine s_nil ?_
    refine c_next ?_
    refine c_ret ?_
    refine e_2 (v := .int _ _) (v' := .bool false) Try.results60 rfl rfl ?_
    rw [← Option.some.inj h]
    exact ⟨rfl, hO25, (e17.trans (e18.trans e25))⟩
  replace h := iF (Int.not_lt.2 h38) h
  refine sv (r_move (v := .bool false) rfl) ?_
  refine g_skip 39 (by rfl) rfl (by rfl) ?_
  refine g_skip 39 (by rfl) rfl (by rfl) ?_
  refine g_skip 39 (by rfl) rfl (by rfl) ?_
  refine g_skip 39 (by rfl) rfl (by rfl) ?_
  refine g_skip 39 (by rfl) rfl (by rfl) ?_
  refine g_skip 39 (by rfl) rfl (by rfl) ?_
  refine g_skip 39 (by rfl) rfl (by rfl) ?_
  refine g_skip 39 (by rfl) rfl (by rfl) ?_
  refine sv (r_pickF (v := .bool false) rfl rfl) ?_
  refine sv (r_assign (v := .int _ _) rfl) ?_
  refine sv (r_assign (v := .bool false) rfl) ?_
  refine s_nil ?_
  refine c_next ?_
  refine c_ret ?_
  refine e_2 (v := .int _ _) (v' := .bool false) Try.results60 rfl rfl ?_
  rw [← Option.some.inj h]
  exact ⟨rfl, hO18, (e17.trans e18)⟩
theorem c_cmp_isNaN_int (x0 : Int)   (r : Bool) (h : F_cmp_isNaN_int x0 = some r) (w : World) (L : Hp)  (hO : Own w L) :
    Calls Try.prog 76 #[(.int .i64 x0)] w fun en w' => en = .returned (.bool r) ∧ Own w' L ∧ Ext w L w' L := by
  unfold F_cmp_isNaN_int at h
  refine enter (n := 6) [(.int .i64 x0)] Try.func76 rfl rfl (Nat.le_of_ble_eq_true rfl) ?_
  refine c_seq ?_
  refine c_reg ?_
  refine sv (r_assign (v := .bool false) rfl) ?_
  refine s_nil ?_
  refine c_next ?_
  refine c_seq ?_
  refine c_reg ?_
  refine sv (r_move (v := .int _ _) rfl) ?_
  refine sv (r_move (v := .int _ _) rfl) ?_
  refine c_neq rfl rfl (fun h5 => ?_) (fun h5 => ?_)
  · replace h := iT h5 h
    refine sv (r_assign (v := .bool true) rfl) ?_
    refine s_nil ?_
    refine c_next ?_
    refine c_ret ?_
    refine e_1 (v := .bool true) Try.results76 rfl ?_
    rw [← Option.some.inj h]
    exact ⟨rfl, hO, (Ext.refl _ _)⟩
  replace h := iF (Classical.not_not.2 h5) h
  refine sv (r_assign (v := .bool false) rfl) ?_
  refine s_nil ?_
  refine c_next ?_
  refine c_ret ?_
  refine e_1 (v := .bool false) Try.results76 rfl ?_
  rw [← Option.some.inj h]
  exact ⟨rfl, hO, (Ext.refl _ _)⟩
theorem c_cmp_Compare_int (x0 : Int) (x1 : Int)   (r : Int) (h : F_cmp_Compare_int x0 x1 = some r) (w : World) (L : Hp)  (hO : Own w L) :
    Calls Try.prog 62 #[(.int .i64 x0), (.int .i64 x1)] w fun en w' => en = .returned (.int .i64 r) ∧ Own w' L ∧ Ext w L w' L := by
  unfold F_cmp_Compare_int at h
  refine enter (n := 20) [(.int .i64 x0), (.int .i64 x1)] Try.func62 rfl rfl (Nat.le_of_ble_eq_true rfl) ?_
  refine c_seq ?_
  refine c_reg ?_
  refine sv (r_assign (v := .int _ _) rfl) ?_
  refine s_nil ?_
  refine c_next ?_
  refine c_seq ?_
  refine c_reg ?_
  refine sv (r_move (v := .int _ _) rfl) ?_
  obtain ⟨y8, hy8, h⟩ := bindE h
  refine s_call cf76 rfl (c_cmp_isNaN_int x0 _ hy8 _ _ hO) ?_
  rintro er8 w2 ⟨rfl, hO2, e2⟩
  refine ⟨_, rfl, ?_⟩
  refine sv (r_assign (v := .bool _) rfl) ?_
  refine s_nil ?_
  refine c_next ?_
  refine c_seq ?_
  refine c_reg ?_
  refine sv (r_move (v := .int _ _) rfl) ?_
  obtain ⟨y10, hy10, h⟩ := bindE h
  refine s_call cf76 rfl (c_cmp_isNaN_int x1 _ hy10 _ _ hO2) ?_
  rintro er10 w4 ⟨rfl, hO4, e4⟩
  refine ⟨_, rfl, ?_⟩
  refine sv (r_assign (v := .bool _) rfl) ?_
  refine s_nil ?_
  refine c_next ?_
  refine c_seq ?_
  refine c_seq ?_
  refine c_reg ?_
  refine sv (r_move (v := .bool _) rfl) ?_
  refine s_nil ?_
  refine c_next ?_
  rcases Bool.eq_false_or_eq_true (y8) with hb7 | hb7
  · replace h := iT hb7 h
    refine c_condT (congrArg Value.bool hb7) ?_
    refine c_seq ?_
    refine c_seq ?_
    refine c_reg ?_
    refine sv (r_move (v := .bool _) rfl) ?_
    refine s_nil ?_
    refine c_next ?_
    rcases Bool.eq_false_or_eq_true (y10) with hb9 | hb9
    · replace h := iT hb9 h
      refine c_condT (congrArg Value.bool hb9) ?_
      refine c_seq ?_
      refine c_reg ?_
      refine sv (r_assign (v := .int _ _) rfl) ?_
      refine s_nil ?_
      refine c_next ?_
      refine c_ret ?_
      refine r_then ?_
      refine r_then ?_
      refine e_1 (v := .int _ _) Try.results62 rfl ?_
      rw [← Option.some.inj h]
      exact ⟨rfl, hO4, (e2.trans e4)⟩
    replace h := iF (nt hb9) h
    refine c_condF (congrArg Value.bool hb9) ?_
    refine c_skip ?_
    refine c_next ?_
    refine c_seq ?_
    refine c_reg ?_
    refine sv (r_assign (v := .int _ _) rfl) ?_
    refine s_nil ?_
    refine c_next ?_
    refine c_ret ?_
    refine r_then ?_
    refine e_1 (v := .int _ _) Try.results62 rfl ?_
    rw [← Option.some.inj h]
    exact ⟨rfl, hO4, (e2.trans e4)⟩
  replace h := iF (nt hb7) h
  refine c_condF (congrArg Value.bool hb7) ?_
  refine c_skip ?_
  refine c_next ?_
  refine c_seq ?_
  refine c_seq ?_
  refine c_reg ?_
  refine sv (r_move (v := .bool _) rfl) ?_
  refine s_nil ?_
  refine c_next ?_
  rcases Bool.eq_false_or_eq_true (y10) with hb11 | hb11
  · replace h := iT hb11 h
    refine c_condT (congrArg Value.bool hb11) ?_
    refine c_seq ?_
    refine c_reg ?_
    refine sv (r_assign (v := .int _ _) rfl) ?_
    refine s_nil ?_
    refine c_next ?_
    refine c_ret ?_
    refine r_then ?_
    refine e_1 (v := .int _ _) Try.results62 rfl ?_
    rw [← Option.some.inj h]
    exact ⟨rfl, hO4, (e2.trans e4)⟩
  replace h := iF (nt hb11) h
  refine c_condF (congrArg Value.bool hb11) ?_
  refine c_skip ?_
  refine c_next ?_
  refine c_seq ?_
  refine c_seq ?_
  refine c_reg ?_
  refine sv (r_move (v := .int _ _) rfl) ?_
  refine sv (r_move (v := .int _ _) rfl) ?_
  refine c_lss rfl rfl (fun h16 => ?_) (fun h16 => ?_)
  · replace h := iT h16 h
    refine s_nil ?_
    refine c_next ?_
    refine c_condT rfl ?_
    refine c_seq ?_
    refine c_reg ?_
    refine sv (r_assign (v := .int _ _) rfl) ?_
    refine s_nil ?_
    refine c_next ?_
    refine c_ret ?_
    refine r_then ?_
    refine e_1 (v := .int _ _) Try.results62 rfl ?_
    rw [← Option.some.inj h]
    exact ⟨rfl, hO4, (e2.trans e4)⟩
  replace h := iF (Int.not_lt.2 h16) h
  refine s_nil ?_
  refine c_next ?_
  refine c_condF rfl ?_
  refine c_skip ?_
  refine c_next ?_
  refine c_seq ?_
  refine c_seq ?_
  refine c_reg ?_
  refine sv (r_move (v := .int _ _) rfl) ?_
  refine sv (r_move (v := .int _ _) rfl) ?_
  refine c_gtr rfl rfl (fun h19 => ?_) (fun h19 => ?_)
  · replace h := iT h19 h
    refine s_nil ?_
    refine c_next ?_
    refine c_condT rfl ?_
    refine c_seq ?_
    refine c_reg ?_
    refine sv (r_assign (v := .int _ _) rfl) ?_
    refine s_nil ?_
    refine c_next ?_
    refine c_ret ?_
    refine r_then ?_
    refine e_1 (v := .int _ _) Try.results62 rfl ?_
    rw [← Option.some.inj h]
    exact ⟨rfl, hO4, (e2.trans e4)⟩
  replace h := iF (Int.not_lt.2 h19) h
  refine s_nil ?_
  refine c_next ?_
  refine c_condF rfl ?_
  refine c_skip ?_
  refine c_next ?_
  refine c_seq ?_
  refine c_reg ?_
  refine sv (r_assign (v := .int _ _) rfl) ?_
  refine s_nil ?_
  refine c_next ?_
  refine c_ret ?_
  refine e_1 (v := .int _ _) Try.results62 rfl ?_
  rw [← Option.some.inj h]
  exact ⟨rfl, hO4, (e2.trans e4)⟩
theorem c_roster_place_1 (x0 : T_roster_Device) (x1 : Int)   (r : Int) (h : F_roster_place_1 x0 x1 = some r) (w : World) (L : Hp)  (hO : Own w L) :
    Calls Try.prog 61 #[(.agg #[(.int .i64 x0.Id), (.int .i64 x0.Times), (.bool x0.Gone), (.int .i64 x0.Last)]), (.int .i64 x1)] w fun en w' => en = .returned (.int .i64 r) ∧ Own w' L ∧ Ext w L w' L := by
  unfold F_roster_place_1 at h
  refine enter (n := 9) [(.agg #[(.int .i64 x0.Id), (.int .i64 x0.Times), (.bool x0.Gone), (.int .i64 x0.Last)]), (.int .i64 x1)] Try.func61 rfl rfl (Nat.le_of_ble_eq_true rfl) ?_
  refine c_seq ?_
  refine c_reg ?_
  refine s_box (v := (.agg #[(.int .i64 x0.Id), (.int .i64 x0.Times), (.bool x0.Gone), (.int .i64 x0.Last)])) rfl hO ?_
  intro b2 w1 hz2 hl2 hO1 e1
  have hO2 : Own w1 ((b2, .cells #[(.int .i64 x0.Id), (.int .i64 x0.Times), (.bool x0.Gone), (.int .i64 x0.Last)] 56 (0, 0)) :: L) := hO1
  refine sv (r_assign (v := .int _ _) rfl) ?_
  refine s_nil ?_
  refine c_next ?_
  refine c_seq ?_
  refine c_reg ?_
  refine sv (r_fieldAddr Try.underlying56 rfl I3 (by decide) rfl) ?_
  refine s_load1 (v := .int _ _) Try.underlying3 rfl rfl (cellB (hO2.get (i := 0) rfl) rfl rfl) ?_
  refine sv (r_move (v := .int _ _) rfl) ?_
  obtain ⟨y8, hy8, h⟩ := bindE h
  refine s_call cf62 rfl (c_cmp_Compare_int x0.Id x1 _ hy8 _ _ hO2) ?_
  rintro er8 w4 ⟨rfl, hO4, e4⟩
  refine ⟨_, rfl, ?_⟩
  refine sv (r_assign (v := .int _ _) rfl) ?_
  refine s_nil ?_
  refine c_next ?_
  refine c_ret ?_
  refine e_1 (v := .int _ _) Try.results61 rfl ?_
  obtain ⟨hO5, e5⟩ := hO4.drop1
  rw [← Option.some.inj h]
  exact ⟨rfl, hO5, (e1.trans (e4.trans e5))⟩
theorem c_roster_place (x0 : (List T_roster_Device)) (x1 : Int) (aP0 : Option Addr) (mP0 cP0 : Nat)  (r : (Int × Bool)) (h : F_roster_place x0 x1 = some r) (w : World) (L : Hp) (hm0p : x0.length = mP0) (hc0p : mP0 ≤ cP0) (hR0p : Rd w L aP0 (fl e_roster_Device x0)) (hO : Own w L) :
    Calls Try.prog 43 #[(.slice aP0 mP0 cP0), (.int .i64 x1)] w fun en w' => en = .returned (.tuple #[(.int .i64 r.1), (.bool r.2)]) ∧ Own w' L ∧ Ext w L w' L := by
  unfold F_roster_place at h
  refine enter (n := 11) [(.slice aP0 mP0 cP0), (.int .i64 x1)] Try.func43 rfl rfl (Nat.le_of_ble_eq_true rfl) ?_
  refine c_seq ?_
  refine c_reg ?_
  refine sv (r_assign (v := .int _ _) rfl) ?_
  refine sv (r_assign (v := .bool false) rfl) ?_
  refine s_nil ?_
  refine c_next ?_
  refine c_seq ?_
  refine c_reg ?_
  refine sv (r_move (v := .slice _ _ _) rfl) ?_
  refine sv (r_move (v := .int _ _) rfl) ?_
  obtain ⟨y8, hy8, h⟩ := bindE h
  refine s_call cf60 rfl (c_slices_BinarySearchFunc_int x0 x1 (fun z0 z1 => F_roster_place_1 z0 z1) aP0 mP0 cP0 61 [] [] (fun w L => True) cf61 (fun hi e => trivial) (fun z0 z1 r w L h hi hO => c_roster_place_1 z0 z1 r h w L hO) _ hy8 _ _ hm0p hc0p hR0p trivial hO) ?_
  rintro er8 w1 ⟨rfl, hO1, e1⟩
  refine ⟨_, rfl, ?_⟩
  refine sv (r_extract rfl rfl) ?_
  refine sv (r_extract rfl rfl) ?_
  refine sv (r_assign (v := .int _ _) rfl) ?_
  refine sv (r_assign (v := .bool _) rfl) ?_
  refine s_nil ?_
  refine c_next ?_
  refine c_ret ?_
  refine e_2 (v := .int _ _) (v' := .bool _) Try.results43 rfl rfl ?_
  rw [← Option.some.inj h]
  exact ⟨rfl, hO1, e1⟩
set_option maxHeartbeats 1000000 in
theorem c_slices_Insert_roster_Device (x0 : List T_roster_Device) (x1 : Int) (x2 : List T_roster_Device) (a0 : Option Addr) (m0 c0 : Nat) (S0 : Hp) (a2 : Option Addr) (m2 c2 : Nat) (S2 : Hp) (r : List T_roster_Device) (h : F_slices_Insert_roster_Device x0 x1 x2 = some r) (w : World) (L : Hp)
    (hm0 : x0.length = m0) (hS0 : OwnSl 56 4 a0 m0 c0 (fl e_roster_Device x0) S0) (hm2 : x2.length = m2) (hS2 : OwnSl 56 4 a2 m2 c2 (fl e_roster_Device x2) S2) (hO : Own w (S0 ++ (S2 ++ L))) :
    Calls Try.prog 44 #[.slice a0 m0 c0, .int .i64 x1, .slice a2 m2 c2] w fun en w' => ∃ (ra : Option Addr) (rm rc : Nat) (rS : Hp), en = .returned (.slice ra rm rc) ∧ r.length = rm ∧ OwnSl 56 4 ra rm rc (fl e_roster_Device r) rS ∧ Own w' (rS ++ L) ∧ Ext w (S0 ++ (S2 ++ L)) w' (rS ++ L) := by
  unfold F_slices_Insert_roster_Device at h
  split at h
  case isFalse => cases h
  rename_i hc
  obtain ⟨hg0, hg1, hg2, hg3⟩ := hc
  obtain ⟨i, rfl⟩ : ∃ i : Nat, x1 = (i : Int) := ⟨x1.toNat, by omega⟩
  have hr := Option.some.inj h
  rw [show (i : Int).toNat = i from rfl] at hr
  subst hm0
  obtain rfl : m2 = 1 := by omega
  have hi : i ≤ x0.length := by omega
  have hle := hS0.le
  have hmx : c0 ≤ 9223372036854775807 := by have := hle.2.1; unfold maxLen at this; exact this
  have hV : (fl e_roster_Device x2).length = 4 := by rw [fl_len e_roster_Device_len, hg2]
  have hX : (fl e_roster_Device x0).length = x0.length * 4 := fl_len e_roster_Device_len x0
  have hD : (fl e_roster_Device (x0.drop i)).length = (x0.length - i) * 4 := by rw [fl_len e_roster_Device_len, List.length_drop]
  have hA : (fl e_roster_Device (x0.take i)).length = i * 4 := by rw [fl_len e_roster_Device_len, List.length_take]; congr 1; omega
  clear h
  refine enter (n := 95) _ Try.func44 rfl Try.ntmps44 (by simp) ?_
  refine c_seq ?_
  refine c_reg ?_
  refine s_assign (v := .slice _ _ _) rfl ?_
  refine s_nil ?_
  refine c_next ?_
  refine c_seq ?_
  refine c_reg ?_
  refine s_move (v := .slice _ _ _) rfl ?_
  refine s_move (v := .int _ _) rfl ?_
  refine s_cut Try.underlying24 I56 rfl (sb_l (by omega) (by omega)) ?_
  intro a12 ha12
  refine s_nil ?_
  refine c_next ?_
  refine c_seq ?_
  refine c_reg ?_
  refine s_move (v := .slice _ _ _) rfl ?_
  refine s_len Try.underlying24 rfl ?_
  refine s_assign (v := .int _ _) rfl ?_
  refine s_nil ?_
  refine c_next ?_
  refine c_seq ?_
  refine c_seq ?_
  refine c_reg ?_
  refine s_move (v := .int _ _) rfl ?_
  refine c_eql rfl rfl (fun h16 => ?_) (fun h16 => ?_)
  · exfalso; omega
  refine s_nil ?_
  refine c_next ?_
  refine c_condF rfl ?_
  refine c_skip ?_
  refine c_next ?_
  refine c_seq ?_
  refine c_reg ?_
  refine s_move (v := .slice _ _ _) rfl ?_
  refine s_len Try.underlying24 rfl ?_
  refine s_assign (v := .int _ _) rfl ?_
  refine s_nil ?_
  refine c_next ?_
  refine c_seq ?_
  refine c_seq ?_
  refine c_reg ?_
  refine s_move (v := .int _ _) rfl ?_
  refine s_move (v := .int _ _) rfl ?_
  refine c_eql rfl rfl (fun h22 => ?_) (fun h22 => ?_)
  · skip
    obtain rfl : i = x0.length := by omega
    refine s_nil ?_
    refine c_next ?_
    refine c_condT rfl ?_
    refine c_seq ?_
    refine c_reg ?_
    refine s_move (v := .slice _ _ _) rfl ?_
    refine s_move (v := .slice _ _ _) rfl ?_
    refine s_append Try.underlying24 I56 rfl (by decide) (by decide) rfl rfl hS0 (hO.perm pm0) (hS2.cs (hO.perm (pmA pm0))) hV (fl_one' e_roster_Device1 x2) (mk := _) rfl (by omega) ?_
    intro a25 c25 S25 w1 hS25 hO1' e1'
    have hO1 := hO1'.perm (List.Perm.symm pm0); have e1 := e1'.permB pm0 (List.Perm.symm pm0); clear hO1' e1'
    refine s_assign (v := .slice _ _ _) rfl ?_
    refine s_nil ?_
    refine c_next ?_
    refine c_ret ?_
    refine r_then ?_
    refine e_1 (v := .slice _ _ _) Try.results44 rfl ?_
    obtain ⟨hO2, e2⟩ := hO1.permE (pmA pm0)
    obtain ⟨hO3, e3⟩ := hO2.dropS
    refine ⟨_, _, _, S25, rfl, ?_, by rw [← hr, List.take_length, List.drop_length, List.append_nil, fl_app]; exact hS25, hO3, (e1.trans (e2.trans e3))⟩
    rw [← hr, List.take_length, List.drop_length, List.append_nil, List.length_append, hg2]
  refine s_nil ?_
  refine c_next ?_
  refine c_condF rfl ?_
  refine c_skip ?_
  refine c_next ?_
  refine c_seq ?_
  refine c_seq ?_
  refine c_reg ?_
  refine s_move (v := .int _ _) rfl ?_
  refine s_move (v := .int _ _) rfl ?_
  refine s_add rfl rfl (by omega) (by omega) ?_
  refine s_move (v := .slice _ _ _) rfl ?_
  refine s_cap Try.underlying24 rfl ?_
  refine c_gtr rfl rfl (fun h31 => ?_) (fun h31 => ?_)
  · skip
    refine s_nil ?_
    refine c_next ?_
    refine c_condT rfl ?_
    refine c_seq ?_
    refine c_reg ?_
    refine s_move (v := .slice _ _ _) rfl ?_
    refine s_move (v := .int _ _) rfl ?_
    have hRd0 := (hS0.drop hO).2.2
    obtain ⟨hOf, ef⟩ := hO.dropS
    refine s_cut Try.underlying24 I56 rfl (sb_h (by omega) (by omega)) ?_
    intro a34 ha34
    obtain rfl : a0 = a34 := (ha34.trans cut0).symm
    refine s_move (v := .int _ _) rfl ?_
    refine s_move (v := .int _ _) rfl ?_
    refine s_add rfl rfl (by omega) (by omega) ?_
    refine s_move (v := .int _ _) rfl ?_
    refine s_sub rfl rfl (by omega) (by omega) ?_
    refine a_grow (size := 4) (m := (i : Int).toNat - 0) (k := x0.length + 1 - i) (xs := fl e_roster_Device (x0.take i)) Try.underlying24 Try.underlying3 I56 rfl (by decide) (by decide) rfl (by show Value.int .i64 ((x0.length : Int) + ((1 : Nat) : Int) - (i : Int)) = .int .i64 ((x0.length + 1 - i : Nat) : Int); congr 1; omega) hOf (Rd.cs (Rd.take (by rw [← flsplit]; exact hRd0))) (by rw [hA]; rfl) (by show c0 - 0 < i + (x0.length + 1 - i); omega) (by show (i + (x0.length + 1 - i)) * 32 ≤ 140737488355328; rw [show i + (x0.length + 1 - i) = x0.length + 1 by omega]; exact hg3) ?_
    intro a40 c40 z40 S40 w40 hz40 hS40 hO40 e40
    have hle40 := hS40.le
    have hE40 := ef.trans e40
    have hRd40 := hRd0.ext e40
    refine s_assign (v := .slice _ _ _) rfl ?_
    refine s_nil ?_
    refine c_next ?_
    refine c_seq ?_
    refine c_reg ?_
    refine s_move (v := .slice _ _ _) rfl ?_
    refine s_move (v := .int _ _) rfl ?_
    refine s_cut Try.underlying24 I56 rfl (sb_l (by omega) (by show (i : Int) ≤ ((i + (x0.length + 1 - i) : Nat) : Int); omega)) ?_
    intro a43 ha43
    refine s_move (v := .slice _ _ _) rfl ?_
    refine a_copyV (size := 4) (l := i) (k' := i + (x0.length + 1 - i) - i) (news := fl e_roster_Device x2) Try.underlying24 I56 rfl ha43 rfl rfl hS40 hO40 (hS2.cs (hO40.perm (pmA pm0))) (by rw [hV, show min 1 (i + (x0.length + 1 - i) - i) = 1 by omega]) (by omega) (fl_one' e_roster_Device1 x2) ?_
    intro S45 w45 hS45 hO45 e45
    refine s_nil ?_
    refine c_next ?_
    refine c_seq ?_
    refine d_startL hO45 (Own.nil w45) 9 (by kernel_rfl) (pk_then (pk_then pk_body)) ?_
    intro hP5 wd5 hK5 hO4 e4
    refine d_take (i := 0) (listed' := #[true, false, false, false, false, false, false, false, false]) (by rfl) (by kernel_rfl) (by rfl) hP5.t rfl hK5 (fun wS hS => r_move (v := .slice _ _ _) rfl) ?_
    refine d_take (i := 1) (listed' := #[true, true, false, false, false, false, false, false, false]) (by rfl) (by kernel_rfl) (by rfl) hP5.t rfl hK5 (fun wS hS => r_move (v := .int _ _) rfl) ?_
    refine d_take (i := 2) (listed' := #[true, true, true, false, false, false, false, false, false]) (by rfl) (by kernel_rfl) (by rfl) hP5.t rfl hK5 (fun wS hS => r_move (v := .int _ _) rfl) ?_
    refine d_take (i := 3) (listed' := #[true, true, true, true, false, false, false, false, false]) (by rfl) (by kernel_rfl) (by rfl) hP5.t rfl hK5 (fun wS hS => r_add rfl rfl (by omega) (by omega)) ?_
    refine d_take (i := 4) (listed' := #[true, true, true, true, true, false, false, false, false]) (by rfl) (by kernel_rfl) (by rfl) hP5.t rfl hK5 (fun wS hS => r_cut Try.underlying24 I56 rfl (by exact sb_l (by omega) (by show (i : Int) + ((1 : Nat) : Int) ≤ ((i + (x0.length + 1 - i) : Nat) : Int); omega))) ?_
    refine d_take (i := 5) (listed' := #[true, true, true, true, true, true, false, false, false]) (by rfl) (by kernel_rfl) (by rfl) hP5.t rfl hK5 (fun wS hS => r_move (v := .slice _ _ _) rfl) ?_
    refine d_take (i := 6) (listed' := #[true, true, true, true, true, true, true, false, false]) (by rfl) (by kernel_rfl) (by rfl) hP5.t rfl hK5 (fun wS hS => r_move (v := .int _ _) rfl) ?_
    refine d_take (i := 7) (listed' := #[true, true, true, true, true, true, true, true, false]) (by rfl) (by kernel_rfl) (by rfl) hP5.t rfl hK5 (fun wS hS => r_cut Try.underlying24 I56 rfl (by exact sb_l (by omega) (by omega))) ?_
    refine d_one (i := 8) (listed' := #[true, true, true, true, true, true, true, true, true]) (by rfl) (by kernel_rfl) (by rfl) ?_
    have hsrc54 : Cs wd5 (if c0 = i then a0 else a0.map (·.add (i * 4))) (fl e_roster_Device (x0.drop i)) := Cs.cutAt (zs := []) (size := 4) (by rw [List.append_nil, ← flsplit]; exact Rd.cs (hRd40.ext (e45.trans e4))) hA (by intro hq; exact absurd hq (by omega)) rfl
    refine a_copyV (size := 4) (l := i + 1) (k' := i + (x0.length + 1 - i) - (i + 1)) (k := x0.length - i) (news := fl e_roster_Device (x0.drop i)) Try.underlying24 I56 rfl rfl rfl rfl hS45 hO4 hsrc54 (by rw [hD, show min (x0.length - i) (i + (x0.length + 1 - i) - (i + 1)) = x0.length - i by omega]) (by omega) (fl_one' e_roster_Device1 _) ?_
    intro S54 w54 hS54 hO54 e54
    rw [ins_grow e_roster_Device_len hi hg2 (by rw [hz40]), hr] at hS54
    have hK6 : Kept w45 _ _ w54 := Kept.to (e4.trans e54) (Own.nil w54)
    refine d_back hK6 ?_
    refine d_done (by kernel_rfl) ?_
    refine c_next ?_
    refine c_seq ?_
    refine c_reg ?_
    refine s_move (v := .slice _ _ _) rfl ?_
    refine s_assign (v := .slice _ _ _) rfl ?_
    refine s_nil ?_
    refine c_next ?_
    refine c_ret ?_
    refine r_then ?_
    refine e_1 (v := .slice _ _ _) Try.results44 rfl ?_
    obtain ⟨hO7, e7⟩ := hO54.permE (pmA pm0)
    obtain ⟨hO8, e8⟩ := hO7.dropS
    exact ⟨_, _, _, S54, rfl, by rw [← hr, List.length_append, List.length_append, List.length_take, List.length_drop, hg2]; show _ = i + (x0.length + 1 - i); omega, hS54, hO8, (hE40.trans (e45.trans (e4.trans (e54.trans (e7.trans e8)))))⟩
  refine s_nil ?_
  refine c_next ?_
  refine c_condF rfl ?_
  refine c_skip ?_
  refine c_next ?_
  refine c_seq ?_
  refine c_reg ?_
  refine s_move (v := .slice _ _ _) rfl ?_
  refine s_move (v := .int _ _) rfl ?_
  refine s_move (v := .int _ _) rfl ?_
  refine s_add rfl rfl (by omega) (by omega) ?_
  refine s_cut Try.underlying24 I56 rfl (sb_h (by omega) (by omega)) ?_
  intro a60 ha60
  obtain rfl : a0 = a60 := (ha60.trans cut0).symm
  obtain ⟨jk, hjk, hS60⟩ := OwnSl_extend (m' := x0.length + 1) hS0 (by omega) (by omega)
  have hjk1 : jk.length = 4 := by rw [hjk, show x0.length + 1 - x0.length = 1 by omega, Nat.one_mul]
  refine s_assign (v := .slice _ _ _) rfl ?_
  refine s_nil ?_
  refine c_next ?_
  refine c_seq ?_
  refine c_seq ?_
  refine c_reg ?_
  refine s_move (v := .slice _ _ _) rfl ?_
  refine s_move (v := .slice _ _ _) rfl ?_
  refine s_move (v := .int _ _) rfl ?_
  refine s_move (v := .int _ _) rfl ?_
  refine s_add rfl rfl (by omega) (by omega) ?_
  refine s_cut Try.underlying24 I56 rfl (sb_l (by omega) (by show (i : Int) + ((1 : Nat) : Int) ≤ ((x0.length + 1 : Nat) : Int); omega)) ?_
  intro a66 ha66
  refine s_callX (v := .bool false) (vs := [.slice a2 1 c2, .slice a66 (x0.length + 1 - (i + 1)) (c0 - (i + 1))]) (by
    show (callFunc 63 #[.slice a2 1 c2, .slice a66 (x0.length + 1 - (i + 1)) (c0 - (i + 1))]).run Try.prog _ = _
    rw [run_callFunc_extern Try.func63 (by kernel_rfl) (by kernel_rfl) (by kernel_rfl) (e := Extern.SlicesOverlaps.overlaps #[24, 24] #[4]) (by kernel_rfl), ov_false (l := i + 1) Try.underlying24 I56 (by decide) hO hS60 hS2 (by omega) ha66]
    rfl) rfl ?_
  refine s_not rfl ?_
  refine s_nil ?_
  refine c_next ?_
  refine c_condT rfl ?_
  refine c_seq ?_
  refine d_startL hO (Own.nil w) 9 (by kernel_rfl) (pk_then (pk_then pk_body)) ?_
  intro hP10 wd10 hK10 hO9 e9
  refine d_take (i := 0) (listed' := #[true, false, false, false, false, false, false, false, false]) (by rfl) (by kernel_rfl) (by rfl) hP10.t rfl hK10 (fun wS hS => r_move (v := .slice _ _ _) rfl) ?_
  refine d_take (i := 1) (listed' := #[true, true, false, false, false, false, false, false, false]) (by rfl) (by kernel_rfl) (by rfl) hP10.t rfl hK10 (fun wS hS => r_move (v := .int _ _) rfl) ?_
  refine d_take (i := 2) (listed' := #[true, true, true, false, false, false, false, false, false]) (by rfl) (by kernel_rfl) (by rfl) hP10.t rfl hK10 (fun wS hS => r_move (v := .int _ _) rfl) ?_
  refine d_take (i := 3) (listed' := #[true, true, true, true, false, false, false, false, false]) (by rfl) (by kernel_rfl) (by rfl) hP10.t rfl hK10 (fun wS hS => r_add rfl rfl (by omega) (by omega)) ?_
  refine d_take (i := 4) (listed' := #[true, true, true, true, true, false, false, false, false]) (by rfl) (by kernel_rfl) (by rfl) hP10.t rfl hK10 (fun wS hS => r_cut Try.underlying24 I56 rfl (by exact sb_l (by omega) (by show (i : Int) + ((1 : Nat) : Int) ≤ ((x0.length + 1 : Nat) : Int); omega))) ?_
  refine d_take (i := 5) (listed' := #[true, true, true, true, true, true, false, false, false]) (by rfl) (by kernel_rfl) (by rfl) hP10.t rfl hK10 (fun wS hS => r_move (v := .slice _ _ _) rfl) ?_
  refine d_take (i := 6) (listed' := #[true, true, true, true, true, true, true, false, false]) (by rfl) (by kernel_rfl) (by rfl) hP10.t rfl hK10 (fun wS hS => r_move (v := .int _ _) rfl) ?_
  refine d_take (i := 7) (listed' := #[true, true, true, true, true, true, true, true, false]) (by rfl) (by kernel_rfl) (by rfl) hP10.t rfl hK10 (fun wS hS => r_cut Try.underlying24 I56 rfl (by exact sb_l (by omega) (by show (i : Int) ≤ ((x0.length + 1 : Nat) : Int); omega))) ?_
  refine d_one (i := 8) (listed' := #[true, true, true, true, true, true, true, true, true]) (by rfl) (by kernel_rfl) (by rfl) ?_
  have hsrc77 : Cs wd10 (if c0 = i then a0 else a0.map (·.add (i * 4))) (fl e_roster_Device (x0.drop i)) := Cs.cutAt (zs := jk) (size := 4) (by rw [← flsplit]; exact hS60.cs hO9) hA (by intro hq; exact absurd hq (by omega)) rfl
  refine a_copyV (size := 4) (l := i + 1) (k' := x0.length + 1 - (i + 1)) (k := x0.length + 1 - i) (news := fl e_roster_Device (x0.drop i)) Try.underlying24 I56 rfl rfl rfl rfl hS60 hO9 hsrc77 (by rw [hD, show min (x0.length + 1 - i) (x0.length + 1 - (i + 1)) = x0.length - i by omega]) (by omega) (fl_one' e_roster_Device1 _) ?_
  intro S77 w77 hS77 hO77 e77
  have hK11 : Kept w _ _ w77 := Kept.to (e9.trans e77) (Own.nil w77)
  refine d_back hK11 ?_
  refine d_done (by kernel_rfl) ?_
  refine c_next ?_
  refine c_seq ?_
  refine c_reg ?_
  refine s_move (v := .slice _ _ _) rfl ?_
  refine s_move (v := .int _ _) rfl ?_
  refine s_cut Try.underlying24 I56 rfl (sb_l (by omega) (by show (i : Int) ≤ ((x0.length + 1 : Nat) : Int); omega)) ?_
  intro a80 ha80
  refine s_move (v := .slice _ _ _) rfl ?_
  refine a_copyV (size := 4) (l := i) (k' := x0.length + 1 - i) (news := fl e_roster_Device x2) Try.underlying24 I56 rfl ha80 rfl rfl hS77 hO77 (hS2.cs (hO77.perm (pmA pm0))) (by rw [hV, show min 1 (x0.length + 1 - i) = 1 by omega]) (by omega) (fl_one' e_roster_Device1 x2) ?_
  intro S82 w82 hS82 hO82 e82
  rw [ins_room e_roster_Device_len hi hg2 hjk1, hr] at hS82
  refine s_nil ?_
  refine c_next ?_
  refine c_seq ?_
  refine c_reg ?_
  refine s_move (v := .slice _ _ _) rfl ?_
  refine s_assign (v := .slice _ _ _) rfl ?_
  refine s_nil ?_
  refine c_next ?_
  refine c_ret ?_
  refine r_then ?_
  refine e_1 (v := .slice _ _ _) Try.results44 rfl ?_
  obtain ⟨hO12, e12⟩ := hO82.permE (pmA pm0)
  obtain ⟨hO13, e13⟩ := hO12.dropS
  exact ⟨_, _, _, S82, rfl, by rw [← hr, List.length_append, List.length_append, List.length_take, List.length_drop, hg2]; show _ = x0.length + 1; omega, hS82, hO13, (e9.trans (e77.trans (e82.trans (e12.trans e13))))⟩
theorem c_roster_Enrol (x0 : (List T_roster_Device)) (x1 : Int) (aP0 : Option Addr) (mP0 cP0 : Nat)  (r : ((List T_roster_Device) × Int)) (h : F_roster_Enrol x0 x1 = some r) (w : World) (L : Hp) (hm0p : x0.length = mP0) (hc0p : mP0 ≤ cP0) (hR0p : Rd w L aP0 (fl e_roster_Device x0)) (hO : Own w L) :
    Calls Try.prog 20 #[(.slice aP0 mP0 cP0), (.int .i64 x1)] w fun en w' => ∃ (ra0 : Option Addr) (rm0 rc0 : Nat) (rS0 : Hp), en = .returned (.tuple #[(.slice ra0 rm0 rc0), (.int .i64 r.2)]) ∧ r.1.length = rm0 ∧ OwnSl 56 4 ra0 rm0 rc0 (fl e_roster_Device r.1) rS0 ∧ Own w' (rS0 ++ L) ∧ Ext w L w' (rS0 ++ L) := by
  unfold F_roster_Enrol at h
  refine enter (n := 62) [(.slice aP0 mP0 cP0), (.int .i64 x1)] Try.func20 rfl rfl (Nat.le_of_ble_eq_true rfl) ?_
  refine c_seq ?_
  refine c_reg ?_
  refine sv (r_assign (v := .slice _ _ _) rfl) ?_
  refine sv (r_assign (v := .int _ _) rfl) ?_
  refine s_nil ?_
  refine c_next ?_
  refine c_seq ?_
  refine c_reg ?_
  refine sv (r_move (v := .slice _ _ _) rfl) ?_
  obtain ⟨y10, hy10, h⟩ := bindE h
  refine s_call cf24 rfl (c_slices_Clone_roster_Device x0 aP0 mP0 cP0 _ hy10 _ _ hm0p hc0p hR0p hO) ?_
  rintro er10 w2 ⟨a10_0, m10_0, c10_0, S10_0, rfl, hm10_0, hS10_0, hO2, e2⟩
  refine ⟨_, rfl, ?_⟩
  refine sv (r_assign (v := .slice _ _ _) rfl) ?_
  refine s_nil ?_
  refine c_next ?_
  refine c_seq ?_
  refine c_reg ?_
  refine sv (r_move (v := .slice _ _ _) rfl) ?_
  refine sv (r_move (v := .int _ _) rfl) ?_
  obtain ⟨y14, hy14, h⟩ := bindE h
  refine s_call cf43 rfl (c_roster_place x0 x1 aP0 mP0 cP0 _ hy14 _ _ hm0p hc0p (hR0p.ext e2) hO2) ?_
  rintro er14 w4 ⟨rfl, hO4, e4⟩
  refine ⟨_, rfl, ?_⟩
  refine sv (r_move (v := .tuple _) rfl) ?_
  refine sv (r_extract rfl rfl) ?_
  refine sv (r_extract rfl rfl) ?_
  refine sv (r_assign (v := .int _ _) rfl) ?_
  refine sv (r_assign (v := .bool _) rfl) ?_
  refine s_nil ?_
  refine c_next ?_
  refine c_seq ?_
  refine c_block ?_
  have hR0p := (hR0p.ext (e2.trans e4))
  obtain ⟨oc12, G12, hG12, h, hr12⟩ := bindG h
  refine c_cutL hO4 (fun Lc f0 g w' => ∃ (xc1_t17 : Bool), (G12 xc1_t17 = some r) ∧ g 0 = (.slice aP0 mP0 cP0) ∧ g 1 = (.int .i64 x1) ∧ g 6 = (.slice a10_0 m10_0 c10_0) ∧ g 7 = (.int .i64 y14.1) ∧ g 8 = (.bool y14.2) ∧ g 17 = (.bool xc1_t17) ∧ Own w' (S10_0 ++ L) ∧ Ext w4 Lc w' (S10_0 ++ L)) ?_ ?_
  · skip
    refine c_reg ?_
    refine sv (r_move (v := .int _ _) rfl) ?_
    refine c_lss rfl rfl (fun h19 => ?_) (fun h19 => ?_)
    · replace h := iT h19 h
      refine sv (r_move (v := .bool true) rfl) ?_
      refine g_skip 20 (by rfl) rfl (by rfl) ?_
      refine g_skip 20 (by rfl) rfl (by rfl) ?_
      refine sv (r_pickT (v := .bool true) rfl rfl) ?_
      refine sv (r_assign (v := .bool true) rfl) ?_
      refine s_nil ?_
      refine c_next ?_
      rw [← Option.some.inj h] at hr12
      exact ⟨_, rfl, true, hr12, rfl, rfl, rfl, rfl, rfl, rfl, hO4, (Ext.refl _ _)⟩
    replace h := iF (Int.not_lt.2 h19) h
    refine sv (r_move (v := .bool false) rfl) ?_
    refine g_do 20 (by rfl) rfl ?_
    refine sv (r_move (v := .int _ _) rfl) ?_
    refine g_do 20 (by rfl) rfl ?_
    refine c_geq rfl rfl (fun h22 => ?_) (fun h22 => ?_)
    · replace h := iT h22 h
      refine sv (r_pickF (v := .bool true) rfl rfl) ?_
      refine sv (r_assign (v := .bool true) rfl) ?_
      refine s_nil ?_
      refine c_next ?_
      rw [← Option.some.inj h] at hr12
      exact ⟨_, rfl, true, hr12, rfl, rfl, rfl, rfl, rfl, rfl, hO4, (Ext.refl _ _)⟩
    replace h := iF (Int.not_le.2 h22) h
    refine sv (r_pickF (v := .bool false) rfl rfl) ?_
    refine sv (r_assign (v := .bool false) rfl) ?_
    refine s_nil ?_
    refine c_next ?_
    rw [← Option.some.inj h] at hr12
    exact ⟨_, rfl, false, hr12, rfl, rfl, rfl, rfl, rfl, rfl, hO4, (Ext.refl _ _)⟩
  intro gg12 w12 hI12
  clear h hr12
  obtain ⟨xc1_t17, h, hsc1_0, hsc1_1, hsc1_6, hsc1_7, hsc1_8, hsc1_17, hO12, e12⟩ := hI12
  replace h := hG_ hG12 h; clear hG12
  obtain ⟨qq12, rfl⟩ := fr6 hsc1_0 hsc1_1 hsc1_6 hsc1_7 hsc1_8 hsc1_17
  clear hsc1_0 hsc1_1 hsc1_6 hsc1_7 hsc1_8 hsc1_17
  rcases Bool.eq_false_or_eq_true (xc1_t17) with hb13 | hb13
  · replace h := iT hb13 h
    refine c_condT (congrArg Value.bool hb13) ?_
    refine c_seq ?_
    refine c_reg ?_
    refine sv (r_move (v := .slice _ _ _) rfl) ?_
    refine sv (r_assign (v := .slice _ _ _) rfl) ?_
    refine sv (r_assign (v := .int _ _) rfl) ?_
    refine s_nil ?_
    refine c_next ?_
    refine c_ret ?_
    refine r_block ?_
    refine r_then ?_
    refine e_2 (v := .slice _ _ _) (v' := .int _ _) Try.results20 rfl rfl ?_
    rw [← Option.some.inj h]
    exact ⟨a10_0, m10_0, c10_0, S10_0, rfl, hm10_0, hS10_0, hO12, (e2.trans (e4.trans e12))⟩
  replace h := iF (nt hb13) h
  refine c_condF (congrArg Value.bool hb13) ?_
  refine c_seq ?_
  refine c_reg ?_
  refine sv (r_move (v := .bool _) rfl) ?_
  refine sv (r_not (b := y14.2) rfl) ?_
  refine sv (r_assign (v := .bool _) rfl) ?_
  refine s_nil ?_
  refine c_next ?_
  rcases Bool.eq_false_or_eq_true (y14.2) with hb14 | hb14
  · replace h := iT hb14 h
    refine c_condF (congrArg Value.bool (nnt hb14)) ?_
    refine c_seq ?_
    refine c_reg ?_
    refine sv (r_move (v := .slice _ _ _) rfl) ?_
    refine sv (r_move (v := .int _ _) rfl) ?_
    obtain ⟨y37, hy37, h⟩ := bindE h
    refine a_idx (e := e_roster_Device) (xs := x0) (i := y14.1) Try.underlying24 I56 rfl rfl (Rd.cs (hR0p.ext e12)) e_roster_Device_len (by decide) hm0p hy37 ?_
    intro p37 hp37
    refine sv (r_fieldAddr Try.underlying56 rfl I4 (by decide) rfl) ?_
    refine s_load1 (v := .bool _) Try.underlying4 rfl rfl (cellP hp37 2 rfl) ?_
    refine sv (r_not (b := y37.Gone) rfl) ?_
    refine sv (r_assign (v := .bool _) rfl) ?_
    refine s_nil ?_
    refine c_next ?_
    rcases Bool.eq_false_or_eq_true (y37.Gone) with hb15 | hb15
    · replace h := iT hb15 h
      refine c_condF (congrArg Value.bool (nnt hb15)) ?_
      refine c_seq ?_
      refine c_reg ?_
      refine sv (r_move (v := .slice _ _ _) rfl) ?_
      refine sv (r_move (v := .int _ _) rfl) ?_
      obtain ⟨y45, hy45, h⟩ := bindE h
      refine a_idx (e := e_roster_Device) (xs := x0) (i := y14.1) Try.underlying24 I56 rfl rfl (Rd.cs (hR0p.ext e12)) e_roster_Device_len (by decide) hm0p hy45 ?_
      intro p45 hp45
      refine sv (r_fieldAddr Try.underlying56 rfl I3 (by decide) rfl) ?_
      refine s_load1 (v := .int _ _) Try.underlying3 rfl rfl (cellP hp45 1 rfl) ?_
      refine c_geq rfl rfl (fun h48 => ?_) (fun h48 => ?_)
      · replace h := iT h48 h
        refine sv (r_assign (v := .bool true) rfl) ?_
        refine s_nil ?_
        refine c_next ?_
        refine c_condT rfl ?_
        refine c_seq ?_
        refine c_reg ?_
        refine sv (r_move (v := .slice _ _ _) rfl) ?_
        refine sv (r_assign (v := .slice _ _ _) rfl) ?_
        refine sv (r_assign (v := .int _ _) rfl) ?_
        refine s_nil ?_
        refine c_next ?_
        refine c_ret ?_
        refine r_block ?_
        refine r_then ?_
        refine e_2 (v := .slice _ _ _) (v' := .int _ _) Try.results20 rfl rfl ?_
        rw [← Option.some.inj h]
        exact ⟨a10_0, m10_0, c10_0, S10_0, rfl, hm10_0, hS10_0, hO12, (e2.trans (e4.trans e12))⟩
      replace h := iF (Int.not_le.2 h48) h
      refine sv (r_assign (v := .bool false) rfl) ?_
      refine s_nil ?_
      refine c_next ?_
      refine c_condF rfl ?_
      refine c_skip ?_
      refine x_norm ?_
      refine c_next ?_
      refine c_seq ?_
      refine c_reg ?_
      refine sv (r_move (v := .slice _ _ _) rfl) ?_
      refine sv (r_move (v := .int _ _) rfl) ?_
      refine sv (r_move (v := .int _ _) rfl) ?_
      refine sv (r_move (v := .slice _ _ _) rfl) ?_
      refine sv (r_move (v := .int _ _) rfl) ?_
      obtain ⟨y55, hy55, h⟩ := bindE h
      refine a_idx (e := e_roster_Device) (xs := x0) (i := y14.1) Try.underlying24 I56 rfl rfl (Rd.cs (hR0p.ext e12)) e_roster_Device_len (by decide) hm0p hy55 ?_
      intro p55 hp55
      refine sv (r_fieldAddr Try.underlying56 rfl I3 (by decide) rfl) ?_
      refine s_load1 (v := .int _ _) Try.underlying3 rfl rfl (cellP hp55 1 rfl) ?_
      refine sv (r_addI (a := y55.Times) (b := 1) rfl rfl) ?_
      refine sv (r_build (vs := [(0, (.int .i64 x1)), (1, (.int .i64 ((w64 (y55.Times + 1)))))]) (cells := #[(.int .i64 x1), (.int .i64 ((w64 (y55.Times + 1)))), (.bool false), (.int .i64 0)]) I56 pl56 rfl (by kernel_rfl)) ?_
      obtain ⟨y60, hy60, h⟩ := bindE h
      refine a_idxO (xs := y10) (i := y14.1) Try.underlying24 I56 rfl rfl hS10_0 hm10_0 hy60 ?_
      intro g60 hg60
      refine a_storeO (e := e_roster_Device) (v' := ({ Id := x1, Times := (w64 (y55.Times + 1)), Gone := false, Last := 0 } : T_roster_Device)) (vs := [(.int .i64 x1), (.int .i64 ((w64 (y55.Times + 1)))), (.bool false), (.int .i64 0)]) (off := 0) (size := 4) I56 rfl rfl rfl rfl hg60 hS10_0 hO12 e_roster_Device_len hm10_0 hy60 (Nat.le_of_ble_eq_true rfl) (List.all_eq_true.1 rfl) rfl ?_
      intro S17n w16 hS17n hO16 e16
      have hm17n := (show (List.set y10 (y14.1 : Int).toNat ({ Id := x1, Times := (w64 (y55.Times + 1)), Gone := false, Last := 0 } : T_roster_Device)).length = y10.length from List.length_set).trans hm10_0
      refine s_nil ?_
      refine c_next ?_
      refine c_seq ?_
      refine c_reg ?_
      refine sv (r_move (v := .slice _ _ _) rfl) ?_
      refine sv (r_assign (v := .slice _ _ _) rfl) ?_
      refine sv (r_assign (v := .int _ _) rfl) ?_
      refine s_nil ?_
      refine c_next ?_
      refine c_ret ?_
      refine e_2 (v := .slice _ _ _) (v' := .int _ _) Try.results20 rfl rfl ?_
      rw [← Option.some.inj h]
      exact ⟨a10_0, m10_0, c10_0, S17n, rfl, hm17n, hS17n, hO16, (e2.trans (e4.trans (e12.trans e16)))⟩
    replace h := iF (nt hb15) h
    refine c_condT (congrArg Value.bool (nnf hb15)) ?_
    refine c_seq ?_
    refine c_reg ?_
    refine sv (r_move (v := .slice _ _ _) rfl) ?_
    refine sv (r_assign (v := .slice _ _ _) rfl) ?_
    refine sv (r_assign (v := .int _ _) rfl) ?_
    refine s_nil ?_
    refine c_next ?_
    refine c_ret ?_
    refine r_block ?_
    refine r_then ?_
    refine e_2 (v := .slice _ _ _) (v' := .int _ _) Try.results20 rfl rfl ?_
    rw [← Option.some.inj h]
    exact ⟨a10_0, m10_0, c10_0, S10_0, rfl, hm10_0, hS10_0, hO12, (e2.trans (e4.trans e12))⟩
  replace h := iF (nt hb14) h
  refine c_condT (congrArg Value.bool (nnf hb14)) ?_
  refine c_seq ?_
  refine c_reg ?_
  refine sv (r_move (v := .slice _ _ _) rfl) ?_
  refine sv (r_move (v := .int _ _) rfl) ?_
  refine sv (r_move (v := .int _ _) rfl) ?_
  refine sv (r_build (vs := [(0, (.int .i64 x1)), (1, (.int .i64 1))]) (cells := #[(.int .i64 x1), (.int .i64 1), (.bool false), (.int .i64 0)]) I56 pl56 rfl (by kernel_rfl)) ?_
  refine a_lit (en := e_roster_Device) (xs := [({ Id := x1, Times := 1, Gone := false, Last := 0 } : T_roster_Device)]) (vs := [(.agg #[(.int .i64 x1), (.int .i64 1), (.bool false), (.int .i64 0)])]) Try.underlying24 I56 hO12 rfl rfl (by simp [Value.cells]) (by decide) rfl e_roster_Device_len rfl (by decide) ?_
  intro a32 m32 c32 S32 w21 hm32 hS32 hO21 e21
  obtain ⟨hO22, e22⟩ := hO21.permE (pmA pm0)
  obtain ⟨y33, hy33, h⟩ := bindE h
  refine s_call cf44 rfl (c_slices_Insert_roster_Device y10 y14.1 [({ Id := x1, Times := 1, Gone := false, Last := 0 } : T_roster_Device)] a10_0 m10_0 c10_0 S10_0 a32 m32 c32 S32 _ hy33 _ _ hm10_0 hS10_0 hm32 hS32 hO22) ?_
  rintro er33 w23 ⟨a33_0, m33_0, c33_0, S33_0, rfl, hm33_0, hS33_0, hO23, e23⟩
  refine ⟨_, rfl, ?_⟩
  refine sv (r_assign (v := .slice _ _ _) rfl) ?_
  refine sv (r_assign (v := .int _ _) rfl) ?_
  refine s_nil ?_
  refine c_next ?_
  refine c_ret ?_
  refine r_block ?_
  refine r_then ?_
  refine e_2 (v := .slice _ _ _) (v' := .int _ _) Try.results20 rfl rfl ?_
  rw [← Option.some.inj h]
  exact ⟨a33_0, m33_0, c33_0, S33_0, rfl, hm33_0, hS33_0, hO23, (e2.trans (e4.trans (e12.trans (e21.trans (e22.trans e23)))))⟩
theorem c_roster_there (x0 : (List T_roster_Device)) (x1 : Int) (aP0 : Option Addr) (mP0 cP0 : Nat)  (r : (Int × Int)) (h : F_roster_there x0 x1 = some r) (w : World) (L : Hp) (hm0p : x0.length = mP0) (hc0p : mP0 ≤ cP0) (hR0p : Rd w L aP0 (fl e_roster_Device x0)) (hO : Own w L) :
    Calls Try.prog 65 #[(.slice aP0 mP0 cP0), (.int .i64 x1)] w fun en w' => en = .returned (.tuple #[(.int .i64 r.1), (.int .i64 r.2)]) ∧ Own w' L ∧ Ext w L w' L := by
  unfold F_roster_there at h
  refine enter (n := 24) [(.slice aP0 mP0 cP0), (.int .i64 x1)] Try.func65 rfl rfl (Nat.le_of_ble_eq_true rfl) ?_
  refine c_seq ?_
  refine c_reg ?_
  refine sv (r_assign (v := .int _ _) rfl) ?_
  refine sv (r_assign (v := .int _ _) rfl) ?_
  refine s_nil ?_
  refine c_next ?_
  refine c_seq ?_
  refine c_reg ?_
  refine sv (r_move (v := .slice _ _ _) rfl) ?_
  refine sv (r_move (v := .int _ _) rfl) ?_
  obtain ⟨y11, hy11, h⟩ := bindE h
  refine s_call cf43 rfl (c_roster_place x0 x1 aP0 mP0 cP0 _ hy11 _ _ hm0p hc0p hR0p hO) ?_
  rintro er11 w2 ⟨rfl, hO2, e2⟩
  refine ⟨_, rfl, ?_⟩
  refine sv (r_move (v := .tuple _) rfl) ?_
  refine sv (r_extract rfl rfl) ?_
  refine sv (r_extract rfl rfl) ?_
  refine sv (r_assign (v := .int _ _) rfl) ?_
  refine sv (r_assign (v := .bool _) rfl) ?_
  refine s_nil ?_
  refine c_next ?_
  refine c_seq ?_
  refine c_block ?_
  refine c_seq ?_
  refine c_reg ?_
  refine sv (r_move (v := .bool _) rfl) ?_
  refine sv (r_not (b := y11.2) rfl) ?_
  refine sv (r_assign (v := .bool _) rfl) ?_
  refine s_nil ?_
  refine c_next ?_
  rcases Bool.eq_false_or_eq_true (y11.2) with hb3 | hb3
  · replace h := iT hb3 h
    refine c_condF (congrArg Value.bool (nnt hb3)) ?_
    refine c_seq ?_
    refine c_reg ?_
    refine sv (r_move (v := .slice _ _ _) rfl) ?_
    refine sv (r_move (v := .int _ _) rfl) ?_
    obtain ⟨y20, hy20, h⟩ := bindE h
    refine a_idx (e := e_roster_Device) (xs := x0) (i := y11.1) Try.underlying24 I56 rfl rfl (Rd.cs (hR0p.ext e2)) e_roster_Device_len (by decide) hm0p hy20 ?_
    intro p20 hp20
    refine sv (r_fieldAddr Try.underlying56 rfl I4 (by decide) rfl) ?_
    refine s_load1 (v := .bool _) Try.underlying4 rfl rfl (cellP hp20 2 rfl) ?_
    refine sv (r_assign (v := .bool _) rfl) ?_
    refine s_nil ?_
    refine c_next ?_
    rcases Bool.eq_false_or_eq_true (y20.Gone) with hb4 | hb4
    · replace h := iT hb4 h
      refine c_condT (congrArg Value.bool hb4) ?_
      refine c_seq ?_
      refine c_reg ?_
      refine sv (r_assign (v := .int _ _) rfl) ?_
      refine sv (r_assign (v := .int _ _) rfl) ?_
      refine s_nil ?_
      refine c_next ?_
      refine c_ret ?_
      refine r_block ?_
      refine r_then ?_
      refine e_2 (v := .int _ _) (v' := .int _ _) Try.results65 rfl rfl ?_
      rw [← Option.some.inj h]
      exact ⟨rfl, hO2, e2⟩
    replace h := iF (nt hb4) h
    refine c_condF (congrArg Value.bool hb4) ?_
    refine c_skip ?_
    refine x_norm ?_
    refine c_next ?_
    refine c_seq ?_
    refine c_reg ?_
    refine sv (r_move (v := .int _ _) rfl) ?_
    refine sv (r_assign (v := .int _ _) rfl) ?_
    refine sv (r_assign (v := .int _ _) rfl) ?_
    refine s_nil ?_
    refine c_next ?_
    refine c_ret ?_
    refine e_2 (v := .int _ _) (v' := .int _ _) Try.results65 rfl rfl ?_
    rw [← Option.some.inj h]
    exact ⟨rfl, hO2, e2⟩
  replace h := iF (nt hb3) h
  refine c_condT (congrArg Value.bool (nnf hb3)) ?_
  refine c_seq ?_
  refine c_reg ?_
  refine sv (r_assign (v := .int _ _) rfl) ?_
  refine sv (r_assign (v := .int _ _) rfl) ?_
  refine s_nil ?_
  refine c_next ?_
  refine c_ret ?_
  refine r_block ?_
  refine r_then ?_
  refine e_2 (v := .int _ _) (v' := .int _ _) Try.results65 rfl rfl ?_
  rw [← Option.some.inj h]
  exact ⟨rfl, hO2, e2⟩
theorem c_roster_Revoke (x0 : (List T_roster_Device)) (x1 : Int) (aP0 : Option Addr) (mP0 cP0 : Nat)  (r : ((List T_roster_Device) × Int)) (h : F_roster_Revoke x0 x1 = some r) (w : World) (L : Hp) (hm0p : x0.length = mP0) (hc0p : mP0 ≤ cP0) (hR0p : Rd w L aP0 (fl e_roster_Device x0)) (hO : Own w L) :
    Calls Try.prog 45 #[(.slice aP0 mP0 cP0), (.int .i64 x1)] w fun en w' => ∃ (ra0 : Option Addr) (rm0 rc0 : Nat) (rS0 : Hp), en = .returned (.tuple #[(.slice ra0 rm0 rc0), (.int .i64 r.2)]) ∧ r.1.length = rm0 ∧ OwnSl 56 4 ra0 rm0 rc0 (fl e_roster_Device r.1) rS0 ∧ Own w' (rS0 ++ L) ∧ Ext w L w' (rS0 ++ L) := by
  unfold F_roster_Revoke at h
  refine enter (n := 26) [(.slice aP0 mP0 cP0), (.int .i64 x1)] Try.func45 rfl rfl (Nat.le_of_ble_eq_true rfl) ?_
  refine c_seq ?_
  refine c_reg ?_
  refine sv (r_assign (v := .slice _ _ _) rfl) ?_
  refine sv (r_assign (v := .int _ _) rfl) ?_
  refine s_nil ?_
  refine c_next ?_
  refine c_seq ?_
  refine c_reg ?_
  refine sv (r_move (v := .slice _ _ _) rfl) ?_
  obtain ⟨y10, hy10, h⟩ := bindE h
  refine s_call cf24 rfl (c_slices_Clone_roster_Device x0 aP0 mP0 cP0 _ hy10 _ _ hm0p hc0p hR0p hO) ?_
  rintro er10 w2 ⟨a10_0, m10_0, c10_0, S10_0, rfl, hm10_0, hS10_0, hO2, e2⟩
  refine ⟨_, rfl, ?_⟩
  refine sv (r_assign (v := .slice _ _ _) rfl) ?_
  refine s_nil ?_
  refine c_next ?_
  refine c_seq ?_
  refine c_reg ?_
  refine sv (r_move (v := .slice _ _ _) rfl) ?_
  refine sv (r_move (v := .int _ _) rfl) ?_
  obtain ⟨y14, hy14, h⟩ := bindE h
  refine s_call cf65 rfl (c_roster_there x0 x1 aP0 mP0 cP0 _ hy14 _ _ hm0p hc0p (hR0p.ext e2) hO2) ?_
  rintro er14 w4 ⟨rfl, hO4, e4⟩
  refine ⟨_, rfl, ?_⟩
  refine sv (r_move (v := .tuple _) rfl) ?_
  refine sv (r_extract rfl rfl) ?_
  refine sv (r_extract rfl rfl) ?_
  refine sv (r_assign (v := .int _ _) rfl) ?_
  refine sv (r_assign (v := .int _ _) rfl) ?_
  refine s_nil ?_
  refine c_next ?_
  refine c_seq ?_
  refine c_seq ?_
  refine c_reg ?_
  refine sv (r_move (v := .int _ _) rfl) ?_
  refine c_neq rfl rfl (fun h18 => ?_) (fun h18 => ?_)
  · replace h := iT h18 h
    refine s_nil ?_
    refine c_next ?_
    refine c_condT rfl ?_
    refine c_seq ?_
    refine c_reg ?_
    refine sv (r_move (v := .slice _ _ _) rfl) ?_
    refine sv (r_move (v := .int _ _) rfl) ?_
    refine sv (r_assign (v := .slice _ _ _) rfl) ?_
    refine sv (r_assign (v := .int _ _) rfl) ?_
    refine s_nil ?_
    refine c_next ?_
    refine c_ret ?_
    refine r_then ?_
    refine e_2 (v := .slice _ _ _) (v' := .int _ _) Try.results45 rfl rfl ?_
    rw [← Option.some.inj h]
    exact ⟨a10_0, m10_0, c10_0, S10_0, rfl, hm10_0, hS10_0, hO4, (e2.trans e4)⟩
  replace h := iF (Classical.not_not.2 h18) h
  refine s_nil ?_
  refine c_next ?_
  refine c_condF rfl ?_
  refine c_skip ?_
  refine c_next ?_
  refine c_seq ?_
  refine c_reg ?_
  refine sv (r_move (v := .slice _ _ _) rfl) ?_
  refine sv (r_move (v := .int _ _) rfl) ?_
  obtain ⟨y23, hy23, h⟩ := bindE h
  refine a_idxO (xs := y10) (i := y14.1) Try.underlying24 I56 rfl rfl hS10_0 hm10_0 hy23 ?_
  intro g23 hg23
  refine sv (r_fieldAddr Try.underlying56 rfl I4 (by decide) rfl) ?_
  refine a_storeO (e := e_roster_Device) (v' := ({ Id := y23.Id, Times := y23.Times, Gone := true, Last := y23.Last } : T_roster_Device)) (vs := [(.bool true)]) (off := 2) (size := 4) I4 rfl rfl rfl rfl hg23 hS10_0 hO4 e_roster_Device_len hm10_0 hy23 (Nat.le_of_ble_eq_true rfl) (List.all_eq_true.1 rfl) rfl ?_
  intro S6n w5 hS6n hO5 e5
  have hm6n := (show (List.set y10 (y14.1 : Int).toNat ({ Id := y23.Id, Times := y23.Times, Gone := true, Last := y23.Last } : T_roster_Device)).length = y10.length from List.length_set).trans hm10_0
  refine s_nil ?_
  refine c_next ?_
  refine c_seq ?_
  refine c_reg ?_
  refine sv (r_move (v := .slice _ _ _) rfl) ?_
  refine sv (r_assign (v := .slice _ _ _) rfl) ?_
  refine sv (r_assign (v := .int _ _) rfl) ?_
  refine s_nil ?_
  refine c_next ?_
  refine c_ret ?_
  refine e_2 (v := .slice _ _ _) (v' := .int _ _) Try.results45 rfl rfl ?_
  rw [← Option.some.inj h]
  exact ⟨a10_0, m10_0, c10_0, S6n, rfl, hm6n, hS6n, hO5, (e2.trans (e4.trans e5))⟩
theorem c_claim_State_move (x0 : T_claim_State) (x1 : Int) (aP0 : Option Addr) (mP0 cP0 : Nat) (aP1 : Option Addr) (mP1 cP1 : Nat)  (r : (T_claim_State × Int)) (h : F_claim_State_move x0 x1 = some r) (w : World) (L : Hp) (hm0p : x0.Roster.length = mP0) (hc0p : mP0 ≤ cP0) (hR0p : Rd w L aP0 (fl e_roster_Device x0.Roster)) (hm1p : x0.Tickets.length = mP1) (hc1p : mP1 ≤ cP1) (hR1p : Rd w L aP1 (fl e_ticket_Ticket x0.Tickets)) (hO : Own w L) :
    Calls Try.prog 23 #[(.agg #[(.int .i64 x0.Epoch), (.int .i64 x0.Owner), (.int .i64 x0.Next), (.slice aP0 mP0 cP0), (.slice aP1 mP1 cP1)]), (.int .i64 x1)] w fun en w' => ∃ (ra0 : Option Addr) (rm0 rc0 : Nat) (ra1 : Option Addr) (rm1 rc1 : Nat), en = .returned (.tuple #[(.agg #[(.int .i64 r.1.Epoch), (.int .i64 r.1.Owner), (.int .i64 r.1.Next), (.slice ra0 rm0 rc0), (.slice ra1 rm1 rc1)]), (.int .i64 r.2)]) ∧ r.1.Roster.length = rm0 ∧ rm0 ≤ rc0 ∧ Rd w' L ra0 (fl e_roster_Device r.1.Roster) ∧ r.1.Tickets.length = rm1 ∧ rm1 ≤ rc1 ∧ Rd w' L ra1 (fl e_ticket_Ticket r.1.Tickets) ∧ Own w' L ∧ Ext w L w' L := by
  unfold F_claim_State_move at h
  refine enter (n := 18) [(.agg #[(.int .i64 x0.Epoch), (.int .i64 x0.Owner), (.int .i64 x0.Next), (.slice aP0 mP0 cP0), (.slice aP1 mP1 cP1)]), (.int .i64 x1)] Try.func23 rfl rfl (Nat.le_of_ble_eq_true rfl) ?_
  refine c_seq ?_
  refine c_reg ?_
  refine s_box (v := (.agg #[(.int .i64 x0.Epoch), (.int .i64 x0.Owner), (.int .i64 x0.Next), (.slice aP0 mP0 cP0), (.slice aP1 mP1 cP1)])) rfl hO ?_
  intro b2 w3 hz2 hl2 hO3 e3
  have hO4 : Own w3 ((b2, .cells #[(.int .i64 x0.Epoch), (.int .i64 x0.Owner), (.int .i64 x0.Next), (.slice aP0 mP0 cP0), (.slice aP1 mP1 cP1)] 27 (0, 0)) :: L) := hO3
  refine s_alloc I27 hO4 ?_
  intro b4 w6 hz4 hl4 hO6 e6
  have hO7 : Own w6 ((b4, .cells #[(.int .i64 0), (.int .i64 0), (.int .i64 0), (.slice none 0 0), (.slice none 0 0)] 27 (0, 0)) :: ((b2, .cells #[(.int .i64 x0.Epoch), (.int .i64 x0.Owner), (.int .i64 x0.Next), (.slice aP0 mP0 cP0), (.slice aP1 mP1 cP1)] 27 (0, 0)) :: L)) := hO6
  refine sv (r_assign (v := .int _ _) rfl) ?_
  refine s_nil ?_
  refine c_next ?_
  refine c_seq ?_
  refine c_seq ?_
  refine c_reg ?_
  refine sv (r_fieldAddr Try.underlying27 rfl I3 (by decide) rfl) ?_
  refine s_load1 (v := .int _ _) Try.underlying3 rfl rfl (cellB (hO7.get (i := 1) rfl) rfl rfl) ?_
  refine c_geq rfl rfl (fun h8 => ?_) (fun h8 => ?_)
  · replace h := iT h8 h
    refine s_nil ?_
    refine c_next ?_
    refine c_condT rfl ?_
    refine c_seq ?_
    refine c_reg ?_
    refine s_loadAll Try.underlying27 rfl I27 rfl (hO7.get (i := 1) rfl) rfl rfl ?_
    refine s_storeN (vs := #[(.int .i64 x0.Epoch), (.int .i64 x0.Owner), (.int .i64 x0.Next), (.slice aP0 mP0 cP0), (.slice aP1 mP1 cP1)]) I27 rfl rfl rfl hO7 (i := 0) rfl (Nat.le_of_ble_eq_true rfl) (List.all_eq_true.1 rfl) ?_
    intro w11 hO11 e11
    have hO12 : Own w11 ((b4, .cells #[(.int .i64 x0.Epoch), (.int .i64 x0.Owner), (.int .i64 x0.Next), (.slice aP0 mP0 cP0), (.slice aP1 mP1 cP1)] 27 (0, 0)) :: ((b2, .cells #[(.int .i64 x0.Epoch), (.int .i64 x0.Owner), (.int .i64 x0.Next), (.slice aP0 mP0 cP0), (.slice aP1 mP1 cP1)] 27 (0, 0)) :: L)) := hO11
    refine sv (r_assign (v := .int _ _) rfl) ?_
    refine s_nil ?_
    refine c_next ?_
    refine c_ret ?_
    refine r_then ?_
    refine e_r2 Try.results23 (rv_agg Try.underlying27 rfl I27 rfl (hO12.get (i := 0) rfl) rfl rfl) (rv_tmp (v := .int _ _) rfl) ?_
    obtain ⟨hO14, e14⟩ := hO12.drop1
    obtain ⟨hO15, e15⟩ := hO14.drop1
    rw [← Option.some.inj h]
    exact ⟨aP0, mP0, cP0, aP1, mP1, cP1, rfl, hm0p, hc0p, (hR0p.ext (e3.trans (e6.trans (e11.trans (e14.trans e15))))), hm1p, hc1p, (hR1p.ext (e3.trans (e6.trans (e11.trans (e14.trans e15))))), hO15, (e3.trans (e6.trans (e11.trans (e14.trans e15))))⟩
  replace h := iF (Int.not_le.2 h8) h
  refine s_nil ?_
  refine c_next ?_
  refine c_condF rfl ?_
  refine c_skip ?_
  refine c_next ?_
  refine c_seq ?_
  refine c_reg ?_
  refine sv (r_fieldAddr Try.underlying27 rfl I3 (by decide) rfl) ?_
  refine s_load1 (v := .int _ _) Try.underlying3 rfl rfl (cellB (hO7.get (i := 1) rfl) rfl rfl) ?_
  refine sv (r_addI (a := x0.Epoch) (b := 1) rfl rfl) ?_
  refine sv (r_fieldAddr Try.underlying27 rfl I3 (by decide) rfl) ?_
  refine s_store1 (v := (.int .i64 ((w64 (x0.Epoch + 1))))) (o := 0) I3 rfl rfl rfl hO7 (i := 1) rfl rfl rfl ?_
  intro w17 hO17 e17
  have hO18 : Own w17 ((b4, .cells #[(.int .i64 0), (.int .i64 0), (.int .i64 0), (.slice none 0 0), (.slice none 0 0)] 27 (0, 0)) :: ((b2, .cells #[(.int .i64 ((w64 (x0.Epoch + 1)))), (.int .i64 x0.Owner), (.int .i64 x0.Next), (.slice aP0 mP0 cP0), (.slice aP1 mP1 cP1)] 27 (0, 0)) :: L)) := hO17
  refine s_nil ?_
  refine c_next ?_
  refine c_seq ?_
  refine c_reg ?_
  refine sv (r_move (v := .int _ _) rfl) ?_
  refine sv (r_fieldAddr Try.underlying27 rfl I3 (by decide) rfl) ?_
  refine s_store1 (v := (.int .i64 x1)) (o := 1) I3 rfl rfl rfl hO18 (i := 1) rfl rfl rfl ?_
  intro w20 hO20 e20
  have hO21 : Own w20 ((b4, .cells #[(.int .i64 0), (.int .i64 0), (.int .i64 0), (.slice none 0 0), (.slice none 0 0)] 27 (0, 0)) :: ((b2, .cells #[(.int .i64 ((w64 (x0.Epoch + 1)))), (.int .i64 x1), (.int .i64 x0.Next), (.slice aP0 mP0 cP0), (.slice aP1 mP1 cP1)] 27 (0, 0)) :: L)) := hO20
  refine sv (r_fieldAddr Try.underlying27 rfl I25 (by decide) rfl) ?_
  refine s_store1 (v := (.slice none 0 0)) (o := 4) I25 rfl rfl rfl hO21 (i := 1) rfl rfl rfl ?_
  intro w23 hO23 e23
  have hO24 : Own w23 ((b4, .cells #[(.int .i64 0), (.int .i64 0), (.int .i64 0), (.slice none 0 0), (.slice none 0 0)] 27 (0, 0)) :: ((b2, .cells #[(.int .i64 ((w64 (x0.Epoch + 1)))), (.int .i64 x1), (.int .i64 x0.Next), (.slice aP0 mP0 cP0), (.slice none 0 0)] 27 (0, 0)) :: L)) := hO23
  refine s_nil ?_
  refine c_next ?_
  refine c_seq ?_
  refine c_reg ?_
  refine s_loadAll Try.underlying27 rfl I27 rfl (hO24.get (i := 1) rfl) rfl rfl ?_
  refine s_storeN (vs := #[(.int .i64 ((w64 (x0.Epoch + 1)))), (.int .i64 x1), (.int .i64 x0.Next), (.slice aP0 mP0 cP0), (.slice none 0 0)]) I27 rfl rfl rfl hO24 (i := 0) rfl (Nat.le_of_ble_eq_true rfl) (List.all_eq_true.1 rfl) ?_
  intro w26 hO26 e26
  have hO27 : Own w26 ((b4, .cells #[(.int .i64 ((w64 (x0.Epoch + 1)))), (.int .i64 x1), (.int .i64 x0.Next), (.slice aP0 mP0 cP0), (.slice none 0 0)] 27 (0, 0)) :: ((b2, .cells #[(.int .i64 ((w64 (x0.Epoch + 1)))), (.int .i64 x1), (.int .i64 x0.Next), (.slice aP0 mP0 cP0), (.slice none 0 0)] 27 (0, 0)) :: L)) := hO26
  refine sv (r_assign (v := .int _ _) rfl) ?_
  refine s_nil ?_
  refine c_next ?_
  refine c_ret ?_
  refine e_r2 Try.results23 (rv_agg Try.underlying27 rfl I27 rfl (hO27.get (i := 0) rfl) rfl rfl) (rv_tmp (v := .int _ _) rfl) ?_
  obtain ⟨hO29, e29⟩ := hO27.drop1
  obtain ⟨hO30, e30⟩ := hO29.drop1
  rw [← Option.some.inj h]
  exact ⟨aP0, mP0, cP0, none, 0, 0, rfl, hm0p, hc0p, (hR0p.ext (e3.trans (e6.trans (e17.trans (e20.trans (e23.trans (e26.trans (e29.trans e30)))))))), rfl, (Nat.le_refl _), (Rd.nil _ _ _), hO30, (e3.trans (e6.trans (e17.trans (e20.trans (e23.trans (e26.trans (e29.trans e30)))))))⟩
theorem c_claim_State_revoke (x0 : T_claim_State) (x1 : Int) (aP0 : Option Addr) (mP0 cP0 : Nat) (aP1 : Option Addr) (mP1 cP1 : Nat)  (r : (T_claim_State × Int)) (h : F_claim_State_revoke x0 x1 = some r) (w : World) (L : Hp) (hm0p : x0.Roster.length = mP0) (hc0p : mP0 ≤ cP0) (hR0p : Rd w L aP0 (fl e_roster_Device x0.Roster)) (hm1p : x0.Tickets.length = mP1) (hc1p : mP1 ≤ cP1) (hR1p : Rd w L aP1 (fl e_ticket_Ticket x0.Tickets)) (hO : Own w L) :
    Calls Try.prog 21 #[(.agg #[(.int .i64 x0.Epoch), (.int .i64 x0.Owner), (.int .i64 x0.Next), (.slice aP0 mP0 cP0), (.slice aP1 mP1 cP1)]), (.int .i64 x1)] w fun en w' => ∃ (ra0 : Option Addr) (rm0 rc0 : Nat) (ra1 : Option Addr) (rm1 rc1 : Nat), en = .returned (.tuple #[(.agg #[(.int .i64 r.1.Epoch), (.int .i64 r.1.Owner), (.int .i64 r.1.Next), (.slice ra0 rm0 rc0), (.slice ra1 rm1 rc1)]), (.int .i64 r.2)]) ∧ r.1.Roster.length = rm0 ∧ rm0 ≤ rc0 ∧ Rd w' L ra0 (fl e_roster_Device r.1.Roster) ∧ r.1.Tickets.length = rm1 ∧ rm1 ≤ rc1 ∧ Rd w' L ra1 (fl e_ticket_Ticket r.1.Tickets) ∧ Own w' L ∧ Ext w L w' L := by
  unfold F_claim_State_revoke at h
  refine enter (n := 30) [(.agg #[(.int .i64 x0.Epoch), (.int .i64 x0.Owner), (.int .i64 x0.Next), (.slice aP0 mP0 cP0), (.slice aP1 mP1 cP1)]), (.int .i64 x1)] Try.func21 rfl rfl (Nat.le_of_ble_eq_true rfl) ?_
  refine c_seq ?_
  refine c_reg ?_
  refine s_box (v := (.agg #[(.int .i64 x0.Epoch), (.int .i64 x0.Owner), (.int .i64 x0.Next), (.slice aP0 mP0 cP0), (.slice aP1 mP1 cP1)])) rfl hO ?_
  intro b2 w3 hz2 hl2 hO3 e3
  have hO4 : Own w3 ((b2, .cells #[(.int .i64 x0.Epoch), (.int .i64 x0.Owner), (.int .i64 x0.Next), (.slice aP0 mP0 cP0), (.slice aP1 mP1 cP1)] 27 (0, 0)) :: L) := hO3
  refine s_alloc I27 hO4 ?_
  intro b4 w6 hz4 hl4 hO6 e6
  have hO7 : Own w6 ((b4, .cells #[(.int .i64 0), (.int .i64 0), (.int .i64 0), (.slice none 0 0), (.slice none 0 0)] 27 (0, 0)) :: ((b2, .cells #[(.int .i64 x0.Epoch), (.int .i64 x0.Owner), (.int .i64 x0.Next), (.slice aP0 mP0 cP0), (.slice aP1 mP1 cP1)] 27 (0, 0)) :: L)) := hO6
  refine sv (r_assign (v := .int _ _) rfl) ?_
  refine s_nil ?_
  refine c_next ?_
  refine c_seq ?_
  refine c_reg ?_
  refine sv (r_fieldAddr Try.underlying27 rfl I24 (by decide) rfl) ?_
  refine s_load1 (v := .slice _ _ _) Try.underlying24 rfl rfl (cellB (hO7.get (i := 1) rfl) rfl rfl) ?_
  refine sv (r_move (v := .int _ _) rfl) ?_
  obtain ⟨y12, hy12, h⟩ := bindE h
  refine s_call cf45 rfl (c_roster_Revoke x0.Roster x1 aP0 mP0 cP0 _ hy12 _ _ hm0p hc0p (hR0p.ext (e3.trans e6)) hO7) ?_
  rintro er12 w10 ⟨a12_0, m12_0, c12_0, S12_0, rfl, hm12_0, hS12_0, hO10, e10⟩
  refine ⟨_, rfl, ?_⟩
  refine sv (r_move (v := .tuple _) rfl) ?_
  refine sv (r_extract rfl rfl) ?_
  refine sv (r_extract rfl rfl) ?_
  refine sv (r_assign (v := .slice _ _ _) rfl) ?_
  refine sv (r_assign (v := .int _ _) rfl) ?_
  refine s_nil ?_
  refine c_next ?_
  refine c_seq ?_
  have hR0p := (hR0p.ext (e3.trans (e6.trans e10)))
  have hR1p := (hR1p.ext (e3.trans (e6.trans e10)))
  obtain ⟨oc13, G13, hG13, h, hr13⟩ := bindG h
  refine c_cutL hO10 (fun Lc f0 g w' => ∃ (xc1_t16 : Bool), (G13 xc1_t16 = some r) ∧ g 1 = (.int .i64 x1) ∧ g 2 = (.pointer (some ⟨b2, 0, none⟩)) ∧ g 4 = (.pointer (some ⟨b4, 0, none⟩)) ∧ g 6 = (.slice a12_0 m12_0 c12_0) ∧ g 7 = (.int .i64 y12.2) ∧ g 16 = (.bool xc1_t16) ∧ Own w' (S12_0 ++ ((b2, .cells #[(.int .i64 x0.Epoch), (.int .i64 x0.Owner), (.int .i64 x0.Next), (.slice aP0 mP0 cP0), (.slice aP1 mP1 cP1)] 27 (0, 0)) :: ((b4, .cells #[(.int .i64 0), (.int .i64 0), (.int .i64 0), (.slice none 0 0), (.slice none 0 0)] 27 (0, 0)) :: L))) ∧ Ext w10 Lc w' (S12_0 ++ ((b2, .cells #[(.int .i64 x0.Epoch), (.int .i64 x0.Owner), (.int .i64 x0.Next), (.slice aP0 mP0 cP0), (.slice aP1 mP1 cP1)] 27 (0, 0)) :: ((b4, .cells #[(.int .i64 0), (.int .i64 0), (.int .i64 0), (.slice none 0 0), (.slice none 0 0)] 27 (0, 0)) :: L)))) ?_ ?_
  · skip
    refine c_reg ?_
    refine sv (r_move (v := .int _ _) rfl) ?_
    refine c_neq rfl rfl (fun h16 => ?_) (fun h16 => ?_)
    · replace h := iT h16 h
      refine s_nil ?_
      refine c_next ?_
      rw [← Option.some.inj h] at hr13
      obtain ⟨hO14, e14⟩ := hO10.permE (pmbA pmb0)
      obtain ⟨hO15, e15⟩ := hO14.permE (pmbC (pmbA pmb0))
      obtain ⟨hO16, e16⟩ := hO15.permE (pmC (pmC pm0))
      exact ⟨_, rfl, true, hr13, rfl, rfl, rfl, rfl, rfl, rfl, hO16, (e14.trans (e15.trans e16))⟩
    replace h := iF (Classical.not_not.2 h16) h
    refine s_nil ?_
    refine c_next ?_
    rw [← Option.some.inj h] at hr13
    obtain ⟨hO17, e17⟩ := hO10.permE (pmbA pmb0)
    obtain ⟨hO18, e18⟩ := hO17.permE (pmbC (pmbA pmb0))
    obtain ⟨hO19, e19⟩ := hO18.permE (pmC (pmC pm0))
    exact ⟨_, rfl, false, hr13, rfl, rfl, rfl, rfl, rfl, rfl, hO19, (e17.trans (e18.trans e19))⟩
  intro gg13 w13 hI13
  clear h hr13
  obtain ⟨xc1_t16, h, hsc1_1, hsc1_2, hsc1_4, hsc1_6, hsc1_7, hsc1_16, hO13, e13⟩ := hI13
  replace h := hG_ hG13 h; clear hG13
  obtain ⟨qq13, rfl⟩ := fr6 hsc1_1 hsc1_2 hsc1_4 hsc1_6 hsc1_7 hsc1_16
  clear hsc1_1 hsc1_2 hsc1_4 hsc1_6 hsc1_7 hsc1_16
  rcases Bool.eq_false_or_eq_true (xc1_t16) with hb20 | hb20
  · replace h := iT hb20 h
    refine c_condT (congrArg Value.bool hb20) ?_
    refine c_seq ?_
    refine c_reg ?_
    refine s_loadAll Try.underlying27 rfl I27 rfl ((hO13.perm (pmbA pmb0)).get (i := 0) rfl) rfl rfl ?_
    refine sv (r_move (v := .int _ _) rfl) ?_
    obtain ⟨hO24, e24⟩ := hO13.permE (pmbA (pmbC pmb0))
    refine s_storeN (vs := #[(.int .i64 x0.Epoch), (.int .i64 x0.Owner), (.int .i64 x0.Next), (.slice aP0 mP0 cP0), (.slice aP1 mP1 cP1)]) I27 rfl rfl rfl hO24 (i := 0) rfl (Nat.le_of_ble_eq_true rfl) (List.all_eq_true.1 rfl) ?_
    intro w23 hO23 e23
    have hO25 : Own w23 ((b4, .cells #[(.int .i64 x0.Epoch), (.int .i64 x0.Owner), (.int .i64 x0.Next), (.slice aP0 mP0 cP0), (.slice aP1 mP1 cP1)] 27 (0, 0)) :: (S12_0 ++ ((b2, .cells #[(.int .i64 x0.Epoch), (.int .i64 x0.Owner), (.int .i64 x0.Next), (.slice aP0 mP0 cP0), (.slice aP1 mP1 cP1)] 27 (0, 0)) :: L))) := hO23
    refine sv (r_assign (v := .int _ _) rfl) ?_
    refine s_nil ?_
    refine c_next ?_
    refine c_ret ?_
    refine r_then ?_
    refine e_r2 Try.results21 (rv_agg Try.underlying27 rfl I27 rfl (hO25.get (i := 0) rfl) rfl rfl) (rv_tmp (v := .int _ _) rfl) ?_
    obtain ⟨hO27, e27⟩ := hO25.drop1
    have hR28 := (hS12_0.drop hO27).2.2
    obtain ⟨hO28, e28⟩ := hO27.dropS
    obtain ⟨hO29, e29⟩ := hO28.drop1
    rw [← Option.some.inj h]
    exact ⟨aP0, mP0, cP0, aP1, mP1, cP1, rfl, hm0p, hc0p, (hR0p.ext (e13.trans (e24.trans (e23.trans (e27.trans (e28.trans e29)))))), hm1p, hc1p, (hR1p.ext (e13.trans (e24.trans (e23.trans (e27.trans (e28.trans e29)))))), hO29, (e3.trans (e6.trans (e10.trans (e13.trans (e24.trans (e23.trans (e27.trans (e28.trans e29))))))))⟩
  replace h := iF (nt hb20) h
  refine c_condF (congrArg Value.bool hb20) ?_
  refine c_skip ?_
  refine c_next ?_
  refine c_seq ?_
  refine c_reg ?_
  refine sv (r_move (v := .slice _ _ _) rfl) ?_
  refine sv (r_fieldAddr Try.underlying27 rfl I24 (by decide) rfl) ?_
  obtain ⟨hO33, e33⟩ := hO13.permE (pmbA pmb0)
  refine s_store1 (v := (.slice a12_0 m12_0 c12_0)) (o := 3) I24 rfl rfl rfl hO33 (i := 0) rfl rfl rfl ?_
  intro w32 hO32 e32
  have hO34 : Own w32 ((b2, .cells #[(.int .i64 x0.Epoch), (.int .i64 x0.Owner), (.int .i64 x0.Next), (.slice a12_0 m12_0 c12_0), (.slice aP1 mP1 cP1)] 27 (0, 0)) :: (S12_0 ++ ((b4, .cells #[(.int .i64 0), (.int .i64 0), (.int .i64 0), (.slice none 0 0), (.slice none 0 0)] 27 (0, 0)) :: L))) := hO32
  refine s_nil ?_
  refine c_next ?_
  refine c_seq ?_
  refine c_seq ?_
  refine c_reg ?_
  refine sv (r_fieldAddr Try.underlying27 rfl I3 (by decide) rfl) ?_
  refine s_load1 (v := .int _ _) Try.underlying3 rfl rfl (cellB (hO34.get (i := 0) rfl) rfl rfl) ?_
  refine sv (r_move (v := .int _ _) rfl) ?_
  refine c_eql rfl rfl (fun h24 => ?_) (fun h24 => ?_)
  · replace h := iT h24 h
    refine s_nil ?_
    refine c_next ?_
    refine c_condT rfl ?_
    refine c_seq ?_
    refine c_reg ?_
    refine s_loadAll Try.underlying27 rfl I27 rfl (hO34.get (i := 0) rfl) rfl rfl ?_
    obtain ⟨hO36, e36⟩ := hO34.permE (pmC pm0)
    have hR37 := (hS12_0.drop hO36).2.2
    obtain ⟨hO37, e37⟩ := hO36.dropS
    obtain ⟨y26, hy26, h⟩ := bindE h
    refine s_call cf23 rfl (c_claim_State_move ({ Epoch := x0.Epoch, Owner := x0.Owner, Next := x0.Next, Roster := y12.1, Tickets := x0.Tickets } : T_claim_State) (-1) a12_0 m12_0 c12_0 aP1 mP1 cP1 _ hy26 _ _ hm12_0 hS12_0.le.1 hR37 hm1p hc1p (hR1p.ext (e13.trans (e33.trans (e32.trans (e36.trans e37))))) hO37) ?_
    rintro er26 w38 ⟨a26_0, m26_0, c26_0, a26_1, m26_1, c26_1, rfl, hm26_0, hc26_0, hR26_0, hm26_1, hc26_1, hR26_1, hO38, e38⟩
    refine ⟨_, rfl, ?_⟩
    refine sv (r_extract rfl rfl) ?_
    refine sv (r_extract rfl rfl) ?_
    refine s_storeN (vs := #[(.int .i64 y26.1.Epoch), (.int .i64 y26.1.Owner), (.int .i64 y26.1.Next), (.slice a26_0 m26_0 c26_0), (.slice a26_1 m26_1 c26_1)]) I27 rfl rfl rfl hO38 (i := 1) rfl (Nat.le_of_ble_eq_true rfl) (List.all_eq_true.1 rfl) ?_
    intro w39 hO39 e39
    have hO40 : Own w39 ((b2, .cells #[(.int .i64 x0.Epoch), (.int .i64 x0.Owner), (.int .i64 x0.Next), (.slice a12_0 m12_0 c12_0), (.slice aP1 mP1 cP1)] 27 (0, 0)) :: ((b4, .cells #[(.int .i64 y26.1.Epoch), (.int .i64 y26.1.Owner), (.int .i64 y26.1.Next), (.slice a26_0 m26_0 c26_0), (.slice a26_1 m26_1 c26_1)] 27 (0, 0)) :: L)) := hO39
    refine sv (r_assign (v := .int _ _) rfl) ?_
    refine s_nil ?_
    refine c_next ?_
    refine c_ret ?_
    refine r_then ?_
    refine e_r2 Try.results21 (rv_agg Try.underlying27 rfl I27 rfl (hO40.get (i := 1) rfl) rfl rfl) (rv_tmp (v := .int _ _) rfl) ?_
    obtain ⟨hO42, e42⟩ := hO40.drop1
    obtain ⟨hO43, e43⟩ := hO42.drop1
    rw [← Option.some.inj h]
    exact ⟨a26_0, m26_0, c26_0, a26_1, m26_1, c26_1, rfl, hm26_0, hc26_0, (hR26_0.ext (e39.trans (e42.trans e43))), hm26_1, hc26_1, (hR26_1.ext (e39.trans (e42.trans e43))), hO43, (e3.trans (e6.trans (e10.trans (e13.trans (e33.trans (e32.trans (e36.trans (e37.trans (e38.trans (e39.trans (e42.trans e43)))))))))))⟩
  replace h := iF h24 h
  refine s_nil ?_
  refine c_next ?_
  refine c_condF rfl ?_
  refine c_skip ?_
  refine c_next ?_
  refine c_seq ?_
  refine c_reg ?_
  refine s_loadAll Try.underlying27 rfl I27 rfl (hO34.get (i := 0) rfl) rfl rfl ?_
  obtain ⟨hO45, e45⟩ := hO34.permE (pmbC (pmbA pmb0))
  refine s_storeN (vs := #[(.int .i64 x0.Epoch), (.int .i64 x0.Owner), (.int .i64 x0.Next), (.slice a12_0 m12_0 c12_0), (.slice aP1 mP1 cP1)]) I27 rfl rfl rfl hO45 (i := 0) rfl (Nat.le_of_ble_eq_true rfl) (List.all_eq_true.1 rfl) ?_
  intro w44 hO44 e44
  have hO46 : Own w44 ((b4, .cells #[(.int .i64 x0.Epoch), (.int .i64 x0.Owner), (.int .i64 x0.Next), (.slice a12_0 m12_0 c12_0), (.slice aP1 mP1 cP1)] 27 (0, 0)) :: ((b2, .cells #[(.int .i64 x0.Epoch), (.int .i64 x0.Owner), (.int .i64 x0.Next), (.slice a12_0 m12_0 c12_0), (.slice aP1 mP1 cP1)] 27 (0, 0)) :: (S12_0 ++ L))) := hO44
  refine sv (r_assign (v := .int _ _) rfl) ?_
  refine s_nil ?_
  refine c_next ?_
  refine c_ret ?_
  refine e_r2 Try.results21 (rv_agg Try.underlying27 rfl I27 rfl (hO46.get (i := 0) rfl) rfl rfl) (rv_tmp (v := .int _ _) rfl) ?_
  obtain ⟨hO48, e48⟩ := hO46.permE (pmC (pmC pm0))
  have hR49 := (hS12_0.drop hO48).2.2
  obtain ⟨hO49, e49⟩ := hO48.dropS
  obtain ⟨hO50, e50⟩ := hO49.drop1
  obtain ⟨hO51, e51⟩ := hO50.drop1
  rw [← Option.some.inj h]
  exact ⟨a12_0, m12_0, c12_0, aP1, mP1, cP1, rfl, hm12_0, hS12_0.le.1, (hR49.ext (e50.trans e51)), hm1p, hc1p, (hR1p.ext (e13.trans (e33.trans (e32.trans (e45.trans (e44.trans (e48.trans (e49.trans (e50.trans e51))))))))), hO51, (e3.trans (e6.trans (e10.trans (e13.trans (e33.trans (e32.trans (e45.trans (e44.trans (e48.trans (e49.trans (e50.trans e51)))))))))))⟩
theorem c_roster_May (x0 : (List T_roster_Device)) (x1 : Int) (x2 : Int) (aP0 : Option Addr) (mP0 cP0 : Nat)  (r : Int) (h : F_roster_May x0 x1 x2 = some r) (w : World) (L : Hp) (hm0p : x0.length = mP0) (hc0p : mP0 ≤ cP0) (hR0p : Rd w L aP0 (fl e_roster_Device x0)) (hO : Own w L) :
    Calls Try.prog 66 #[(.slice aP0 mP0 cP0), (.int .i64 x1), (.int .i64 x2)] w fun en w' => en = .returned (.int .i64 r) ∧ Own w' L ∧ Ext w L w' L := by
  unfold F_roster_May at h
  refine enter (n := 31) [(.slice aP0 mP0 cP0), (.int .i64 x1), (.int .i64 x2)] Try.func66 rfl rfl (Nat.le_of_ble_eq_true rfl) ?_
  refine c_seq ?_
  refine c_reg ?_
  refine sv (r_assign (v := .int _ _) rfl) ?_
  refine s_nil ?_
  refine c_next ?_
  refine c_seq ?_
  refine c_reg ?_
  refine sv (r_move (v := .slice _ _ _) rfl) ?_
  refine sv (r_move (v := .int _ _) rfl) ?_
  obtain ⟨y12, hy12, h⟩ := bindE h
  refine s_call cf65 rfl (c_roster_there x0 x1 aP0 mP0 cP0 _ hy12 _ _ hm0p hc0p hR0p hO) ?_
  rintro er12 w2 ⟨rfl, hO2, e2⟩
  refine ⟨_, rfl, ?_⟩
  refine sv (r_move (v := .tuple _) rfl) ?_
  refine sv (r_extract rfl rfl) ?_
  refine sv (r_extract rfl rfl) ?_
  refine sv (r_assign (v := .int _ _) rfl) ?_
  refine sv (r_assign (v := .int _ _) rfl) ?_
  refine s_nil ?_
  refine c_next ?_
  refine c_seq ?_
  refine c_seq ?_
  refine c_reg ?_
  refine sv (r_move (v := .int _ _) rfl) ?_
  refine c_eql rfl rfl (fun h16 => ?_) (fun h16 => ?_)
  · replace h := iT h16 h
    refine sv (r_move (v := .bool true) rfl) ?_
    refine g_do 17 (by rfl) rfl ?_
    refine sv (r_move (v := .int _ _) rfl) ?_
    refine g_do 17 (by rfl) rfl ?_
    refine sv (r_move (v := .slice _ _ _) rfl) ?_
    refine g_do 17 (by rfl) rfl ?_
    refine sv (r_move (v := .int _ _) rfl) ?_
    refine g_do 17 (by rfl) rfl ?_
    obtain ⟨y21, hy21, h⟩ := bindE h
    refine a_idx (e := e_roster_Device) (xs := x0) (i := y12.1) Try.underlying24 I56 rfl rfl (Rd.cs (hR0p.ext e2)) e_roster_Device_len (by decide) hm0p hy21 ?_
    intro p21 hp21
    refine g_do 17 (by rfl) rfl ?_
    refine sv (r_fieldAddr Try.underlying56 rfl I3 (by decide) rfl) ?_
    refine g_do 17 (by rfl) rfl ?_
    refine s_load1 (v := .int _ _) Try.underlying3 rfl rfl (cellP hp21 3 rfl) ?_
    refine g_do 17 (by rfl) rfl ?_
    refine c_leq rfl rfl (fun h24 => ?_) (fun h24 => ?_)
    · replace h := iT h24 h
      refine g_do 17 (by rfl) rfl ?_
      refine sv (r_move (v := .bool true) rfl) ?_
      refine g_skip 25 (by rfl) rfl (by rfl) ?_
      refine g_skip 25 (by rfl) rfl (by rfl) ?_
      refine g_do 17 (by rfl) rfl ?_
      refine sv (r_pickT (v := .bool true) rfl rfl) ?_
      refine sv (r_pickT (v := .bool true) rfl rfl) ?_
      refine s_nil ?_
      refine c_next ?_
      refine c_condT rfl ?_
      refine c_seq ?_
      refine c_reg ?_
      refine sv (r_assign (v := .int _ _) rfl) ?_
      refine s_nil ?_
      refine c_next ?_
      refine c_ret ?_
      refine r_then ?_
      refine e_1 (v := .int _ _) Try.results66 rfl ?_
      rw [← Option.some.inj h]
      exact ⟨rfl, hO2, e2⟩
    replace h := iF (Int.not_le.2 h24) h
    refine g_do 17 (by rfl) rfl ?_
    refine sv (r_move (v := .bool false) rfl) ?_
    refine g_do 25 (by rfl) rfl ?_
    refine sv (r_move (v := .int _ _) rfl) ?_
    refine g_do 25 (by rfl) rfl ?_
    refine c_gtr rfl rfl (fun h27 => ?_) (fun h27 => ?_)
    · replace h := iT h27 h
      refine g_do 17 (by rfl) rfl ?_
      refine sv (r_pickF (v := .bool true) rfl rfl) ?_
      refine sv (r_pickT (v := .bool true) rfl rfl) ?_
      refine s_nil ?_
      refine c_next ?_
      refine c_condT rfl ?_
      refine c_seq ?_
      refine c_reg ?_
      refine sv (r_assign (v := .int _ _) rfl) ?_
      refine s_nil ?_
      refine c_next ?_
      refine c_ret ?_
      refine r_then ?_
      refine e_1 (v := .int _ _) Try.results66 rfl ?_
      rw [← Option.some.inj h]
      exact ⟨rfl, hO2, e2⟩
    replace h := iF (Int.not_lt.2 h27) h
    refine g_do 17 (by rfl) rfl ?_
    refine sv (r_pickF (v := .bool false) rfl rfl) ?_
    refine sv (r_pickT (v := .bool false) rfl rfl) ?_
    refine s_nil ?_
    refine c_next ?_
    refine c_condF rfl ?_
    refine c_skip ?_
    refine c_next ?_
    refine c_seq ?_
    refine c_reg ?_
    refine sv (r_move (v := .int _ _) rfl) ?_
    refine sv (r_assign (v := .int _ _) rfl) ?_
    refine s_nil ?_
    refine c_next ?_
    refine c_ret ?_
    refine e_1 (v := .int _ _) Try.results66 rfl ?_
    rw [← Option.some.inj h]
    exact ⟨rfl, hO2, e2⟩
  replace h := iF h16 h
  refine sv (r_move (v := .bool false) rfl) ?_
  refine g_skip 17 (by rfl) rfl (by rfl) ?_
  refine g_skip 17 (by rfl) rfl (by rfl) ?_
  refine g_skip 17 (by rfl) rfl (by rfl) ?_
  refine g_skip 17 (by rfl) rfl (by rfl) ?_
  refine g_skip 17 (by rfl) rfl (by rfl) ?_
  refine g_skip 17 (by rfl) rfl (by rfl) ?_
  refine g_skip 17 (by rfl) rfl (by rfl) ?_
  refine g_skip 17 (by rfl) rfl (by rfl) ?_
  refine g_skipU 25 (by rfl) rfl ?_
  refine g_skipU 25 (by rfl) rfl ?_
  refine g_skip 17 (by rfl) rfl (by rfl) ?_
  refine sv (r_pickF (v := .bool false) rfl rfl) ?_
  refine s_nil ?_
  refine c_next ?_
  refine c_condF rfl ?_
  refine c_skip ?_
  refine c_next ?_
  refine c_seq ?_
  refine c_reg ?_
  refine sv (r_move (v := .int _ _) rfl) ?_
  refine sv (r_assign (v := .int _ _) rfl) ?_
  refine s_nil ?_
  refine c_next ?_
  refine c_ret ?_
  refine e_1 (v := .int _ _) Try.results66 rfl ?_
  rw [← Option.some.inj h]
  exact ⟨rfl, hO2, e2⟩
theorem c_roster_Accept (x0 : (List T_roster_Device)) (x1 : Int) (x2 : Int) (aP0 : Option Addr) (mP0 cP0 : Nat)  (r : ((List T_roster_Device) × Int)) (h : F_roster_Accept x0 x1 x2 = some r) (w : World) (L : Hp) (hm0p : x0.length = mP0) (hc0p : mP0 ≤ cP0) (hR0p : Rd w L aP0 (fl e_roster_Device x0)) (hO : Own w L) :
    Calls Try.prog 46 #[(.slice aP0 mP0 cP0), (.int .i64 x1), (.int .i64 x2)] w fun en w' => ∃ (ra0 : Option Addr) (rm0 rc0 : Nat) (rS0 : Hp), en = .returned (.tuple #[(.slice ra0 rm0 rc0), (.int .i64 r.2)]) ∧ r.1.length = rm0 ∧ OwnSl 56 4 ra0 rm0 rc0 (fl e_roster_Device r.1) rS0 ∧ Own w' (rS0 ++ L) ∧ Ext w L w' (rS0 ++ L) := by
  unfold F_roster_Accept at h
  refine enter (n := 34) [(.slice aP0 mP0 cP0), (.int .i64 x1), (.int .i64 x2)] Try.func46 rfl rfl (Nat.le_of_ble_eq_true rfl) ?_
  refine c_seq ?_
  refine c_reg ?_
  refine sv (r_assign (v := .slice _ _ _) rfl) ?_
  refine sv (r_assign (v := .int _ _) rfl) ?_
  refine s_nil ?_
  refine c_next ?_
  refine c_seq ?_
  refine c_reg ?_
  refine sv (r_move (v := .slice _ _ _) rfl) ?_
  obtain ⟨y13, hy13, h⟩ := bindE h
  refine s_call cf24 rfl (c_slices_Clone_roster_Device x0 aP0 mP0 cP0 _ hy13 _ _ hm0p hc0p hR0p hO) ?_
  rintro er13 w2 ⟨a13_0, m13_0, c13_0, S13_0, rfl, hm13_0, hS13_0, hO2, e2⟩
  refine ⟨_, rfl, ?_⟩
  refine sv (r_assign (v := .slice _ _ _) rfl) ?_
  refine s_nil ?_
  refine c_next ?_
  refine c_seq ?_
  refine c_seq ?_
  refine c_reg ?_
  refine sv (r_move (v := .slice _ _ _) rfl) ?_
  refine sv (r_move (v := .int _ _) rfl) ?_
  refine sv (r_move (v := .int _ _) rfl) ?_
  obtain ⟨y17, hy17, h⟩ := bindE h
  refine s_call cf66 rfl (c_roster_May x0 x1 x2 aP0 mP0 cP0 _ hy17 _ _ hm0p hc0p (hR0p.ext e2) hO2) ?_
  rintro er17 w6 ⟨rfl, hO6, e6⟩
  refine ⟨_, rfl, ?_⟩
  refine sv (r_assign (v := .int _ _) rfl) ?_
  refine s_nil ?_
  refine c_next ?_
  have hR0p := (hR0p.ext (e2.trans e6))
  obtain ⟨oc7, G7, hG7, h, hr7⟩ := bindG h
  refine c_cutL hO6 (fun Lc f0 g w' => ∃ (xc1_t19 : Bool), (G7 xc1_t19 = some r) ∧ g 0 = (.slice aP0 mP0 cP0) ∧ g 1 = (.int .i64 x1) ∧ g 2 = (.int .i64 x2) ∧ g 8 = (.slice a13_0 m13_0 c13_0) ∧ g 9 = (.int .i64 y17) ∧ g 19 = (.bool xc1_t19) ∧ Own w' (S13_0 ++ L) ∧ Ext w6 Lc w' (S13_0 ++ L)) ?_ ?_
  · skip
    refine c_reg ?_
    refine sv (r_move (v := .int _ _) rfl) ?_
    refine c_neq rfl rfl (fun h19 => ?_) (fun h19 => ?_)
    · replace h := iT h19 h
      refine s_nil ?_
      refine c_next ?_
      rw [← Option.some.inj h] at hr7
      exact ⟨_, rfl, true, hr7, rfl, rfl, rfl, rfl, rfl, rfl, hO6, (Ext.refl _ _)⟩
    replace h := iF (Classical.not_not.2 h19) h
    refine s_nil ?_
    refine c_next ?_
    rw [← Option.some.inj h] at hr7
    exact ⟨_, rfl, false, hr7, rfl, rfl, rfl, rfl, rfl, rfl, hO6, (Ext.refl _ _)⟩
  intro gg7 w7 hI7
  clear h hr7
  obtain ⟨xc1_t19, h, hsc1_0, hsc1_1, hsc1_2, hsc1_8, hsc1_9, hsc1_19, hO7, e7⟩ := hI7
  replace h := hG_ hG7 h; clear hG7
  obtain ⟨qq7, rfl⟩ := fr6 hsc1_0 hsc1_1 hsc1_2 hsc1_8 hsc1_9 hsc1_19
  clear hsc1_0 hsc1_1 hsc1_2 hsc1_8 hsc1_9 hsc1_19
  rcases Bool.eq_false_or_eq_true (xc1_t19) with hb8 | hb8
  · replace h := iT hb8 h
    refine c_condT (congrArg Value.bool hb8) ?_
    refine c_seq ?_
    refine c_reg ?_
    refine sv (r_move (v := .slice _ _ _) rfl) ?_
    refine sv (r_move (v := .int _ _) rfl) ?_
    refine sv (r_assign (v := .slice _ _ _) rfl) ?_
    refine sv (r_assign (v := .int _ _) rfl) ?_
    refine s_nil ?_
    refine c_next ?_
    refine c_ret ?_
    refine r_then ?_
    refine e_2 (v := .slice _ _ _) (v' := .int _ _) Try.results46 rfl rfl ?_
    rw [← Option.some.inj h]
    exact ⟨a13_0, m13_0, c13_0, S13_0, rfl, hm13_0, hS13_0, hO7, (e2.trans (e6.trans e7))⟩
  replace h := iF (nt hb8) h
  refine c_condF (congrArg Value.bool hb8) ?_
  refine c_skip ?_
  refine c_next ?_
  refine c_seq ?_
  refine c_reg ?_
  refine sv (r_move (v := .slice _ _ _) rfl) ?_
  refine sv (r_move (v := .int _ _) rfl) ?_
  obtain ⟨y25, hy25, h⟩ := bindE h
  refine s_call cf43 rfl (c_roster_place x0 x1 aP0 mP0 cP0 _ hy25 _ _ hm0p hc0p (hR0p.ext e7) hO7) ?_
  rintro er25 w10 ⟨rfl, hO10, e10⟩
  refine ⟨_, rfl, ?_⟩
  refine sv (r_move (v := .tuple _) rfl) ?_
  refine sv (r_extract rfl rfl) ?_
  refine sv (r_extract rfl rfl) ?_
  refine sv (r_assign (v := .int _ _) rfl) ?_
  refine sv (r_assign (v := .bool _) rfl) ?_
  refine s_nil ?_
  refine c_next ?_
  refine c_seq ?_
  refine c_reg ?_
  refine sv (r_move (v := .slice _ _ _) rfl) ?_
  refine sv (r_move (v := .int _ _) rfl) ?_
  refine sv (r_move (v := .int _ _) rfl) ?_
  obtain ⟨y31, hy31, h⟩ := bindE h
  refine a_idxO (xs := y13) (i := y25.1) Try.underlying24 I56 rfl rfl hS13_0 hm13_0 hy31 ?_
  intro g31 hg31
  refine sv (r_fieldAddr Try.underlying56 rfl I3 (by decide) rfl) ?_
  refine a_storeO (e := e_roster_Device) (v' := ({ Id := y31.Id, Times := y31.Times, Gone := y31.Gone, Last := x2 } : T_roster_Device)) (vs := [(.int .i64 x2)]) (off := 3) (size := 4) I3 rfl rfl rfl rfl hg31 hS13_0 hO10 e_roster_Device_len hm13_0 hy31 (Nat.le_of_ble_eq_true rfl) (List.all_eq_true.1 rfl) rfl ?_
  intro S12n w11 hS12n hO11 e11
  have hm12n := (show (List.set y13 (y25.1 : Int).toNat ({ Id := y31.Id, Times := y31.Times, Gone := y31.Gone, Last := x2 } : T_roster_Device)).length = y13.length from List.length_set).trans hm13_0
  refine s_nil ?_
  refine c_next ?_
  refine c_seq ?_
  refine c_reg ?_
  refine sv (r_move (v := .slice _ _ _) rfl) ?_
  refine sv (r_assign (v := .slice _ _ _) rfl) ?_
  refine sv (r_assign (v := .int _ _) rfl) ?_
  refine s_nil ?_
  refine c_next ?_
  refine c_ret ?_
  refine e_2 (v := .slice _ _ _) (v' := .int _ _) Try.results46 rfl rfl ?_
  rw [← Option.some.inj h]
  exact ⟨a13_0, m13_0, c13_0, S12n, rfl, hm12n, hS12n, hO11, (e2.trans (e6.trans (e7.trans (e10.trans e11))))⟩
theorem c_roster_Find (x0 : (List T_roster_Device)) (x1 : Int) (aP0 : Option Addr) (mP0 cP0 : Nat)  (r : (T_roster_Device × Bool)) (h : F_roster_Find x0 x1 = some r) (w : World) (L : Hp) (hm0p : x0.length = mP0) (hc0p : mP0 ≤ cP0) (hR0p : Rd w L aP0 (fl e_roster_Device x0)) (hO : Own w L) :
    Calls Try.prog 40 #[(.slice aP0 mP0 cP0), (.int .i64 x1)] w fun en w' => en = .returned (.tuple #[(.agg #[(.int .i64 r.1.Id), (.int .i64 r.1.Times), (.bool r.1.Gone), (.int .i64 r.1.Last)]), (.bool r.2)]) ∧ Own w' L ∧ Ext w L w' L := by
  unfold F_roster_Find at h
  refine enter (n := 21) [(.slice aP0 mP0 cP0), (.int .i64 x1)] Try.func40 rfl rfl (Nat.le_of_ble_eq_true rfl) ?_
  refine c_seq ?_
  refine c_reg ?_
  refine s_alloc I56 hO ?_
  intro b4 w2 hz4 hl4 hO2 e2
  have hO3 : Own w2 ((b4, .cells #[(.int .i64 0), (.int .i64 0), (.bool false), (.int .i64 0)] 56 (0, 0)) :: L) := hO2
  refine sv (r_assign (v := .bool false) rfl) ?_
  refine s_nil ?_
  refine c_next ?_
  refine c_seq ?_
  refine c_reg ?_
  refine sv (r_move (v := .slice _ _ _) rfl) ?_
  refine sv (r_move (v := .int _ _) rfl) ?_
  obtain ⟨y11, hy11, h⟩ := bindE h
  refine s_call cf43 rfl (c_roster_place x0 x1 aP0 mP0 cP0 _ hy11 _ _ hm0p hc0p (hR0p.ext e2) hO3) ?_
  rintro er11 w6 ⟨rfl, hO6, e6⟩
  refine ⟨_, rfl, ?_⟩
  refine sv (r_move (v := .tuple _) rfl) ?_
  refine sv (r_extract rfl rfl) ?_
  refine sv (r_extract rfl rfl) ?_
  refine sv (r_assign (v := .int _ _) rfl) ?_
  refine sv (r_assign (v := .bool _) rfl) ?_
  refine s_nil ?_
  refine c_next ?_
  refine c_seq ?_
  refine c_seq ?_
  refine c_reg ?_
  refine sv (r_move (v := .bool _) rfl) ?_
  refine sv (r_not (b := y11.2) rfl) ?_
  refine s_nil ?_
  refine c_next ?_
  rcases Bool.eq_false_or_eq_true (y11.2) with hb9 | hb9
  · replace h := iT hb9 h
    refine c_condF (congrArg Value.bool (nnt hb9)) ?_
    refine c_skip ?_
    refine c_next ?_
    refine c_seq ?_
    refine c_reg ?_
    refine sv (r_move (v := .slice _ _ _) rfl) ?_
    refine sv (r_move (v := .int _ _) rfl) ?_
    obtain ⟨y19, hy19, h⟩ := bindE h
    refine a_idx (e := e_roster_Device) (xs := x0) (i := y11.1) Try.underlying24 I56 rfl rfl (Rd.cs (hR0p.ext (e2.trans e6))) e_roster_Device_len (by decide) hm0p hy19 ?_
    intro p19 hp19
    refine s_loadN (cs := [(.int .i64 y19.Id), (.int .i64 y19.Times), (.bool y19.Gone), (.int .i64 y19.Last)]) Try.underlying56 rfl I56 rfl rfl hp19 ?_
    refine s_storeN (vs := #[(.int .i64 y19.Id), (.int .i64 y19.Times), (.bool y19.Gone), (.int .i64 y19.Last)]) I56 rfl rfl rfl hO6 (i := 0) rfl (Nat.le_of_ble_eq_true rfl) (List.all_eq_true.1 rfl) ?_
    intro w10 hO10 e10
    have hO11 : Own w10 ((b4, .cells #[(.int .i64 y19.Id), (.int .i64 y19.Times), (.bool y19.Gone), (.int .i64 y19.Last)] 56 (0, 0)) :: L) := hO10
    refine sv (r_assign (v := .bool true) rfl) ?_
    refine s_nil ?_
    refine c_next ?_
    refine c_ret ?_
    refine e_r2 Try.results40 (rv_agg Try.underlying56 rfl I56 rfl (hO11.get (i := 0) rfl) rfl rfl) (rv_tmp (v := .bool true) rfl) ?_
    obtain ⟨hO13, e13⟩ := hO11.drop1
    rw [← Option.some.inj h]
    exact ⟨rfl, hO13, (e2.trans (e6.trans (e10.trans e13)))⟩
  replace h := iF (nt hb9) h
  refine c_condT (congrArg Value.bool (nnf hb9)) ?_
  refine c_seq ?_
  refine c_reg ?_
  refine sv (r_build (vs := []) (cells := #[(.int .i64 0), (.int .i64 0), (.bool false), (.int .i64 0)]) I56 pl56 rfl (by kernel_rfl)) ?_
  refine s_storeN (vs := #[(.int .i64 0), (.int .i64 0), (.bool false), (.int .i64 0)]) I56 rfl rfl rfl hO6 (i := 0) rfl (Nat.le_of_ble_eq_true rfl) (List.all_eq_true.1 rfl) ?_
  intro w15 hO15 e15
  have hO16 : Own w15 ((b4, .cells #[(.int .i64 0), (.int .i64 0), (.bool false), (.int .i64 0)] 56 (0, 0)) :: L) := hO15
  refine sv (r_assign (v := .bool false) rfl) ?_
  refine s_nil ?_
  refine c_next ?_
  refine c_ret ?_
  refine r_then ?_
  refine e_r2 Try.results40 (rv_agg Try.underlying56 rfl I56 rfl (hO16.get (i := 0) rfl) rfl rfl) (rv_tmp (v := .bool false) rfl) ?_
  obtain ⟨hO18, e18⟩ := hO16.drop1
  rw [← Option.some.inj h]
  exact ⟨rfl, hO18, (e2.trans (e6.trans (e15.trans e18)))⟩
theorem c_claim_State_whom (x0 : T_claim_State) (x1 : Int) (aP0 : Option Addr) (mP0 cP0 : Nat) (aP1 : Option Addr) (mP1 cP1 : Nat)  (r : Int) (h : F_claim_State_whom x0 x1 = some r) (w : World) (L : Hp) (hm0p : x0.Roster.length = mP0) (hc0p : mP0 ≤ cP0) (hR0p : Rd w L aP0 (fl e_roster_Device x0.Roster)) (hm1p : x0.Tickets.length = mP1) (hc1p : mP1 ≤ cP1) (hR1p : Rd w L aP1 (fl e_ticket_Ticket x0.Tickets)) (hO : Own w L) :
    Calls Try.prog 67 #[(.agg #[(.int .i64 x0.Epoch), (.int .i64 x0.Owner), (.int .i64 x0.Next), (.slice aP0 mP0 cP0), (.slice aP1 mP1 cP1)]), (.int .i64 x1)] w fun en w' => en = .returned (.int .i64 r) ∧ Own w' L ∧ Ext w L w' L := by
  unfold F_claim_State_whom at h
  refine enter (n := 28) [(.agg #[(.int .i64 x0.Epoch), (.int .i64 x0.Owner), (.int .i64 x0.Next), (.slice aP0 mP0 cP0), (.slice aP1 mP1 cP1)]), (.int .i64 x1)] Try.func67 rfl rfl (Nat.le_of_ble_eq_true rfl) ?_
  refine c_seq ?_
  refine c_reg ?_
  refine s_box (v := (.agg #[(.int .i64 x0.Epoch), (.int .i64 x0.Owner), (.int .i64 x0.Next), (.slice aP0 mP0 cP0), (.slice aP1 mP1 cP1)])) rfl hO ?_
  intro b2 w2 hz2 hl2 hO2 e2
  have hO3 : Own w2 ((b2, .cells #[(.int .i64 x0.Epoch), (.int .i64 x0.Owner), (.int .i64 x0.Next), (.slice aP0 mP0 cP0), (.slice aP1 mP1 cP1)] 27 (0, 0)) :: L) := hO2
  refine sv (r_assign (v := .int _ _) rfl) ?_
  refine s_nil ?_
  refine c_next ?_
  refine c_seq ?_
  have hR0p := (hR0p.ext e2)
  have hR1p := (hR1p.ext e2)
  obtain ⟨oc5, G5, hG5, h, hr5⟩ := bindG h
  refine c_cutL hO3 (fun Lc f0 g w' => ∃ (xc1_t8 : Bool), (G5 xc1_t8 = some r) ∧ g 1 = (.int .i64 x1) ∧ g 2 = (.pointer (some ⟨b2, 0, none⟩)) ∧ g 8 = (.bool xc1_t8) ∧ Own w' ((b2, .cells #[(.int .i64 x0.Epoch), (.int .i64 x0.Owner), (.int .i64 x0.Next), (.slice aP0 mP0 cP0), (.slice aP1 mP1 cP1)] 27 (0, 0)) :: L) ∧ Ext w2 Lc w' ((b2, .cells #[(.int .i64 x0.Epoch), (.int .i64 x0.Owner), (.int .i64 x0.Next), (.slice aP0 mP0 cP0), (.slice aP1 mP1 cP1)] 27 (0, 0)) :: L)) ?_ ?_
  · skip
    refine c_reg ?_
    refine sv (r_move (v := .int _ _) rfl) ?_
    refine c_eql rfl rfl (fun h8 => ?_) (fun h8 => ?_)
    · replace h := iT h8 h
      refine s_nil ?_
      refine c_next ?_
      rw [← Option.some.inj h] at hr5
      exact ⟨_, rfl, true, hr5, rfl, rfl, rfl, hO3, (Ext.refl _ _)⟩
    replace h := iF h8 h
    refine s_nil ?_
    refine c_next ?_
    rw [← Option.some.inj h] at hr5
    exact ⟨_, rfl, false, hr5, rfl, rfl, rfl, hO3, (Ext.refl _ _)⟩
  intro gg5 w5 hI5
  clear h hr5
  obtain ⟨xc1_t8, h, hsc1_1, hsc1_2, hsc1_8, hO5, e5⟩ := hI5
  replace h := hG_ hG5 h; clear hG5
  obtain ⟨qq5, rfl⟩ := fr3 hsc1_1 hsc1_2 hsc1_8
  clear hsc1_1 hsc1_2 hsc1_8
  rcases Bool.eq_false_or_eq_true (xc1_t8) with hb6 | hb6
  · replace h := iT hb6 h
    refine c_condT (congrArg Value.bool hb6) ?_
    refine c_seq ?_
    refine c_reg ?_
    refine sv (r_assign (v := .int _ _) rfl) ?_
    refine s_nil ?_
    refine c_next ?_
    refine c_ret ?_
    refine r_then ?_
    refine e_1 (v := .int _ _) Try.results67 rfl ?_
    obtain ⟨hO7, e7⟩ := hO5.drop1
    rw [← Option.some.inj h]
    exact ⟨rfl, hO7, (e2.trans (e5.trans e7))⟩
  replace h := iF (nt hb6) h
  refine c_condF (congrArg Value.bool hb6) ?_
  refine c_skip ?_
  refine c_next ?_
  refine c_seq ?_
  have hR0p := (hR0p.ext e5)
  have hR1p := (hR1p.ext e5)
  obtain ⟨oc8, G8, hG8, h, hr8⟩ := bindG h
  refine c_cutL hO5 (fun Lc f0 g w' => ∃ (xc2_t14 : Bool), (G8 xc2_t14 = some r) ∧ g 1 = (.int .i64 x1) ∧ g 2 = (.pointer (some ⟨b2, 0, none⟩)) ∧ g 14 = (.bool xc2_t14) ∧ Own w' ((b2, .cells #[(.int .i64 x0.Epoch), (.int .i64 x0.Owner), (.int .i64 x0.Next), (.slice aP0 mP0 cP0), (.slice aP1 mP1 cP1)] 27 (0, 0)) :: L) ∧ Ext w5 Lc w' ((b2, .cells #[(.int .i64 x0.Epoch), (.int .i64 x0.Owner), (.int .i64 x0.Next), (.slice aP0 mP0 cP0), (.slice aP1 mP1 cP1)] 27 (0, 0)) :: L)) ?_ ?_
  · skip
    refine c_reg ?_
    refine sv (r_move (v := .int _ _) rfl) ?_
    refine c_lss rfl rfl (fun h10 => ?_) (fun h10 => ?_)
    · replace h := iT h10 h
      refine sv (r_move (v := .bool true) rfl) ?_
      refine g_skip 11 (by rfl) rfl (by rfl) ?_
      refine g_skip 11 (by rfl) rfl (by rfl) ?_
      refine sv (r_pickT (v := .bool true) rfl rfl) ?_
      refine s_nil ?_
      refine c_next ?_
      rw [← Option.some.inj h] at hr8
      exact ⟨_, rfl, true, hr8, rfl, rfl, rfl, hO5, (Ext.refl _ _)⟩
    replace h := iF (Int.not_lt.2 h10) h
    refine sv (r_move (v := .bool false) rfl) ?_
    refine g_do 11 (by rfl) rfl ?_
    refine sv (r_move (v := .int _ _) rfl) ?_
    refine g_do 11 (by rfl) rfl ?_
    refine c_geq rfl rfl (fun h13 => ?_) (fun h13 => ?_)
    · replace h := iT h13 h
      refine sv (r_pickF (v := .bool true) rfl rfl) ?_
      refine s_nil ?_
      refine c_next ?_
      rw [← Option.some.inj h] at hr8
      exact ⟨_, rfl, true, hr8, rfl, rfl, rfl, hO5, (Ext.refl _ _)⟩
    replace h := iF (Int.not_le.2 h13) h
    refine sv (r_pickF (v := .bool false) rfl rfl) ?_
    refine s_nil ?_
    refine c_next ?_
    rw [← Option.some.inj h] at hr8
    exact ⟨_, rfl, false, hr8, rfl, rfl, rfl, hO5, (Ext.refl _ _)⟩
  intro gg8 w8 hI8
  clear h hr8
  obtain ⟨xc2_t14, h, hsc2_1, hsc2_2, hsc2_14, hO8, e8⟩ := hI8
  replace h := hG_ hG8 h; clear hG8
  obtain ⟨qq8, rfl⟩ := fr3 hsc2_1 hsc2_2 hsc2_14
  clear hsc2_1 hsc2_2 hsc2_14
  rcases Bool.eq_false_or_eq_true (xc2_t14) with hb9 | hb9
  · replace h := iT hb9 h
    refine c_condT (congrArg Value.bool hb9) ?_
    refine c_seq ?_
    refine c_reg ?_
    refine sv (r_assign (v := .int _ _) rfl) ?_
    refine s_nil ?_
    refine c_next ?_
    refine c_ret ?_
    refine r_then ?_
    refine e_1 (v := .int _ _) Try.results67 rfl ?_
    obtain ⟨hO10, e10⟩ := hO8.drop1
    rw [← Option.some.inj h]
    exact ⟨rfl, hO10, (e2.trans (e5.trans (e8.trans e10)))⟩
  replace h := iF (nt hb9) h
  refine c_condF (congrArg Value.bool hb9) ?_
  refine c_skip ?_
  refine c_next ?_
  refine c_seq ?_
  refine c_reg ?_
  refine sv (r_fieldAddr Try.underlying27 rfl I24 (by decide) rfl) ?_
  refine s_load1 (v := .slice _ _ _) Try.underlying24 rfl rfl (cellB (hO8.get (i := 0) rfl) rfl rfl) ?_
  refine sv (r_move (v := .int _ _) rfl) ?_
  obtain ⟨y19, hy19, h⟩ := bindE h
  refine s_call cf40 rfl (c_roster_Find x0.Roster x1 aP0 mP0 cP0 _ hy19 _ _ hm0p hc0p (hR0p.ext e8) hO8) ?_
  rintro er19 w14 ⟨rfl, hO14, e14⟩
  refine ⟨_, rfl, ?_⟩
  refine sv (r_move (v := .tuple _) rfl) ?_
  refine sv (r_extract rfl rfl) ?_
  refine sv (r_extract rfl rfl) ?_
  refine s_alloc I56 hO14 ?_
  intro b5 w15 hz5 hl5 hO15 e15
  have hO16 : Own w15 ((b5, .cells #[(.int .i64 0), (.int .i64 0), (.bool false), (.int .i64 0)] 56 (0, 0)) :: ((b2, .cells #[(.int .i64 x0.Epoch), (.int .i64 x0.Owner), (.int .i64 x0.Next), (.slice aP0 mP0 cP0), (.slice aP1 mP1 cP1)] 27 (0, 0)) :: L)) := hO15
  refine s_storeN (vs := #[(.int .i64 y19.1.Id), (.int .i64 y19.1.Times), (.bool y19.1.Gone), (.int .i64 y19.1.Last)]) I56 rfl rfl rfl hO16 (i := 0) rfl (Nat.le_of_ble_eq_true rfl) (List.all_eq_true.1 rfl) ?_
  intro w18 hO18 e18
  have hO19 : Own w18 ((b5, .cells #[(.int .i64 y19.1.Id), (.int .i64 y19.1.Times), (.bool y19.1.Gone), (.int .i64 y19.1.Last)] 56 (0, 0)) :: ((b2, .cells #[(.int .i64 x0.Epoch), (.int .i64 x0.Owner), (.int .i64 x0.Next), (.slice aP0 mP0 cP0), (.slice aP1 mP1 cP1)] 27 (0, 0)) :: L)) := hO18
  refine sv (r_assign (v := .bool _) rfl) ?_
  refine s_nil ?_
  refine c_next ?_
  refine c_seq ?_
  refine c_block ?_
  refine c_seq ?_
  refine c_reg ?_
  refine sv (r_move (v := .bool _) rfl) ?_
  refine sv (r_not (b := y19.2) rfl) ?_
  refine sv (r_assign (v := .bool _) rfl) ?_
  refine s_nil ?_
  refine c_next ?_
  rcases Bool.eq_false_or_eq_true (y19.2) with hb21 | hb21
  · replace h := iT hb21 h
    refine c_condF (congrArg Value.bool (nnt hb21)) ?_
    refine c_seq ?_
    refine c_reg ?_
    refine sv (r_fieldAddr Try.underlying56 rfl I4 (by decide) rfl) ?_
    refine s_load1 (v := .bool _) Try.underlying4 rfl rfl (cellB (hO19.get (i := 0) rfl) rfl rfl) ?_
    refine sv (r_assign (v := .bool _) rfl) ?_
    refine s_nil ?_
    refine c_next ?_
    rcases Bool.eq_false_or_eq_true (y19.1.Gone) with hb22 | hb22
    · replace h := iT hb22 h
      refine c_condT (congrArg Value.bool hb22) ?_
      refine c_seq ?_
      refine c_reg ?_
      refine sv (r_assign (v := .int _ _) rfl) ?_
      refine s_nil ?_
      refine c_next ?_
      refine c_ret ?_
      refine r_block ?_
      refine r_then ?_
      refine e_1 (v := .int _ _) Try.results67 rfl ?_
      obtain ⟨hO23, e23⟩ := hO19.drop1
      obtain ⟨hO24, e24⟩ := hO23.drop1
      rw [← Option.some.inj h]
      exact ⟨rfl, hO24, (e2.trans (e5.trans (e8.trans (e14.trans (e15.trans (e18.trans (e23.trans e24)))))))⟩
    replace h := iF (nt hb22) h
    refine c_condF (congrArg Value.bool hb22) ?_
    refine c_skip ?_
    refine x_norm ?_
    refine c_next ?_
    refine c_seq ?_
    refine c_reg ?_
    refine sv (r_assign (v := .int _ _) rfl) ?_
    refine s_nil ?_
    refine c_next ?_
    refine c_ret ?_
    refine e_1 (v := .int _ _) Try.results67 rfl ?_
    obtain ⟨hO25, e25⟩ := hO19.drop1
    obtain ⟨hO26, e26⟩ := hO25.drop1
    rw [← Option.some.inj h]
    exact ⟨rfl, hO26, (e2.trans (e5.trans (e8.trans (e14.trans (e15.trans (e18.trans (e25.trans e26)))))))⟩
  replace h := iF (nt hb21) h
  refine c_condT (congrArg Value.bool (nnf hb21)) ?_
  refine c_seq ?_
  refine c_reg ?_
  refine sv (r_assign (v := .int _ _) rfl) ?_
  refine s_nil ?_
  refine c_next ?_
  refine c_ret ?_
  refine r_block ?_
  refine r_then ?_
  refine e_1 (v := .int _ _) Try.results67 rfl ?_
  obtain ⟨hO27, e27⟩ := hO19.drop1
  obtain ⟨hO28, e28⟩ := hO27.drop1
  rw [← Option.some.inj h]
  exact ⟨rfl, hO28, (e2.trans (e5.trans (e8.trans (e14.trans (e15.trans (e18.trans (e27.trans e28)))))))⟩
theorem c_slices_Clone_ticket_Ticket (x0 : (List T_ticket_Ticket)) (aP0 : Option Addr) (mP0 cP0 : Nat)  (r : (List T_ticket_Ticket)) (h : F_slices_Clone_ticket_Ticket x0 = some r) (w : World) (L : Hp) (hm0p : x0.length = mP0) (hc0p : mP0 ≤ cP0) (hR0p : Rd w L aP0 (fl e_ticket_Ticket x0)) (hO : Own w L) :
    Calls Try.prog 25 #[(.slice aP0 mP0 cP0)] w fun en w' => ∃ (ra0 : Option Addr) (rm0 rc0 : Nat) (rS0 : Hp), en = .returned (.slice ra0 rm0 rc0) ∧ r.length = rm0 ∧ OwnSl 59 3 ra0 rm0 rc0 (fl e_ticket_Ticket r) rS0 ∧ Own w' (rS0 ++ L) ∧ Ext w L w' (rS0 ++ L) := by
  unfold F_slices_Clone_ticket_Ticket at h
  refine enter (n := 8) [(.slice aP0 mP0 cP0)] Try.func25 rfl rfl (Nat.le_of_ble_eq_true rfl) ?_
  refine c_seq ?_
  refine c_reg ?_
  refine sv (r_assign (v := .slice _ _ _) rfl) ?_
  refine s_nil ?_
  refine c_next ?_
  refine c_seq ?_
  refine c_seq ?_
  refine c_reg ?_
  refine sv (r_move (v := .slice _ _ _) rfl) ?_
  refine sv (r_sl_eql Try.underlying25 rfl rfl) ?_
  rcases Bool.eq_false_or_eq_true (aP0).isNone with hb1 | hb1
  · have hx_ := nil_row e_ticket_Ticket_len (by decide) hb1 hR0p
    rw [hb1]
    replace h : (some []) = some r := by rw [hx_] at h; simpa [appO] using h
    refine s_nil ?_
    refine c_next ?_
    refine c_condT rfl ?_
    refine c_seq ?_
    refine c_reg ?_
    refine sv (r_assign (v := .slice _ _ _) rfl) ?_
    refine s_nil ?_
    refine c_next ?_
    refine c_ret ?_
    refine r_then ?_
    refine e_1 (v := .slice _ _ _) Try.results25 rfl ?_
    rw [← Option.some.inj h]
    exact ⟨none, 0, 0, [], rfl, rfl, (OwnSl.nil _ _), hO, (Ext.refl _ _)⟩
  rw [hb1]
  refine s_nil ?_
  refine c_next ?_
  refine c_condF rfl ?_
  refine c_skip ?_
  refine c_next ?_
  refine c_seq ?_
  refine c_reg ?_
  refine a_lit (en := e_ticket_Ticket) (xs := []) (vs := []) Try.underlying25 I59 hO rfl rfl (by simp [Value.cells]) (by decide) rfl e_ticket_Ticket_len rfl (by decide) ?_
  intro a5 m5 c5 S5 w3 hm5 hS5 hO3 e3
  refine sv (r_move (v := .slice _ _ _) rfl) ?_
  obtain ⟨y7, hy7, h⟩ := bindE h
  refine a_append (e := e_ticket_Ticket) (xs := []) (ys := x0) Try.underlying25 I59 rfl (by decide) (by decide) rfl rfl hS5 hO3 (Rd.cs (hR0p.ext e3)) e_ticket_Ticket_len e_ticket_Ticket1 hm5 hm0p hy7 ?_
  intro a7 m7 c7 S7a w4 hm7 hS7a hO4 e4
  refine sv (r_assign (v := .slice _ _ _) rfl) ?_
  refine s_nil ?_
  refine c_next ?_
  refine c_ret ?_
  refine e_1 (v := .slice _ _ _) Try.results25 rfl ?_
  rw [← Option.some.inj h]
  exact ⟨a7, m7, c7, S7a, rfl, hm7, hS7a, hO4, (e3.trans e4)⟩
theorem c_ticket_Live_1 (x0 : T_ticket_Ticket) (k0 : Int) (pK0 : Addr)  (r : Bool) (h : F_ticket_Live_1 x0 k0 = some r) (w : World) (L : Hp) (hRK0 : Rd w L (some pK0) [(.int .i64 k0)]) (hO : Own w L) :
    Calls Try.prog 79 #[(.agg #[(.int .i64 x0.No), (.int .i64 x0.For), (.int .i64 x0.Until)]), (.pointer (some pK0))] w fun en w' => en = .returned (.bool r) ∧ Own w' L ∧ Ext w L w' L := by
  unfold F_ticket_Live_1 at h
  refine enter (n := 8) [(.agg #[(.int .i64 x0.No), (.int .i64 x0.For), (.int .i64 x0.Until)]), (.pointer (some pK0))] Try.func79 rfl rfl (Nat.le_of_ble_eq_true rfl) ?_
  refine c_seq ?_
  refine c_reg ?_
  refine s_box (v := (.agg #[(.int .i64 x0.No), (.int .i64 x0.For), (.int .i64 x0.Until)])) rfl hO ?_
  intro b2 w1 hz2 hl2 hO1 e1
  have hO2 : Own w1 ((b2, .cells #[(.int .i64 x0.No), (.int .i64 x0.For), (.int .i64 x0.Until)] 59 (0, 0)) :: L) := hO1
  refine sv (r_assign (v := .bool false) rfl) ?_
  refine s_nil ?_
  refine c_next ?_
  refine c_seq ?_
  refine c_reg ?_
  refine sv (r_fieldAddr Try.underlying59 rfl I3 (by decide) rfl) ?_
  refine s_load1 (v := .int _ _) Try.underlying3 rfl rfl (cellB (hO2.get (i := 0) rfl) rfl rfl) ?_
  refine s_load1 (v := .int _ _) Try.underlying3 rfl rfl (cellP (Rd.at1 (hRK0.ext e1)) 0 rfl) ?_
  refine c_lss rfl rfl (fun h7 => ?_) (fun h7 => ?_)
  · replace h := iT h7 h
    refine sv (r_assign (v := .bool true) rfl) ?_
    refine s_nil ?_
    refine c_next ?_
    refine c_ret ?_
    refine e_1 (v := .bool true) Try.results79 rfl ?_
    obtain ⟨hO4, e4⟩ := hO2.drop1
    rw [← Option.some.inj h]
    exact ⟨rfl, hO4, (e1.trans e4)⟩
  replace h := iF (Int.not_lt.2 h7) h
  refine sv (r_assign (v := .bool false) rfl) ?_
  refine s_nil ?_
  refine c_next ?_
  refine c_ret ?_
  refine e_1 (v := .bool false) Try.results79 rfl ?_
  obtain ⟨hO5, e5⟩ := hO2.drop1
  rw [← Option.some.inj h]
  exact ⟨rfl, hO5, (e1.trans e5)⟩
theorem c_slices_IndexFunc_ticket_Ticket (x0 : (List T_ticket_Ticket)) (x1 : (T_ticket_Ticket → Option Bool)) (aP0 : Option Addr) (mP0 cP0 : Nat) (gP1 : FuncId) (fP1 kP1 : List Value) (InvP1 : World → Hp → Prop) (hcfP1 : ∀ (args : Array Value) (w : World), (callFunc gP1 args).run Try.prog w = .ok (.enter gP1 args) w) (hIxP1 : ∀ {w w' : World} {L L' : Hp}, InvP1 w L → Ext w L w' L' → InvP1 w' L') (hclP1 : ∀ (z0 : T_ticket_Ticket) (r : Bool) (w : World) (L : Hp), x1 z0 = some r → InvP1 w L → Own w L → Calls Try.prog gP1 (fP1 ++ ([(.agg #[(.int .i64 z0.No), (.int .i64 z0.For), (.int .i64 z0.Until)])] : List Value) ++ kP1).toArray w fun en w' => en = .returned (.bool r) ∧ Own w' L ∧ Ext w L w' L) (r : Int) (h : F_slices_IndexFunc_ticket_Ticket x0 x1 = some r) (w : World) (L : Hp) (hm0p : x0.length = mP0) (hc0p : mP0 ≤ cP0) (hR0p : Rd w L aP0 (fl e_ticket_Ticket x0)) (hIP1 : InvP1 w L) (hO : Own w L) :
    Calls Try.prog 70 #[(.slice aP0 mP0 cP0), (.func (.func gP1) fP1.toArray kP1.toArray)] w fun en w' => en = .returned (.int .i64 r) ∧ Own w' L ∧ Ext w L w' L := by
  unfold F_slices_IndexFunc_ticket_Ticket at h
  refine enter (n := 19) [(.slice aP0 mP0 cP0), (.func (.func gP1) fP1.toArray kP1.toArray)] Try.func70 rfl rfl (Nat.le_of_ble_eq_true rfl) ?_
  refine c_seq ?_
  refine c_reg ?_
  refine sv (r_assign (v := .int _ _) rfl) ?_
  refine s_nil ?_
  refine c_next ?_
  refine c_seq ?_
  refine c_seq ?_
  refine c_reg ?_
  refine sv (r_move (v := .slice _ _ _) rfl) ?_
  refine sv (r_lenL (xs := x0) Try.underlying25 rfl hm0p) ?_
  refine sv (r_move (v := .int _ _) rfl) ?_
  refine s_nil ?_
  refine c_next ?_
  refine c_block ?_
  obtain ⟨kl5, hkl5⟩ := loop_iff.1 h
  clear h
  refine c_loopL hO (fun Lc f0 m g wl => ∃ (xl1_t8 : Int), (iterK (slices_IndexFunc_ticket_Ticket_l1 x0 x1) m xl1_t8 = some r) ∧ g 0 = (.slice aP0 mP0 cP0) ∧ g 1 = (.func (.func gP1) fP1.toArray kP1.toArray) ∧ g 7 = (.int .i64 ((x0.length : Int))) ∧ g 8 = (.int .i64 xl1_t8) ∧ Own wl L ∧ Ext w Lc wl L) kl5 ?_ ?_
  · skip
    exact ⟨0, hkl5, rfl, rfl, rfl, rfl, hO, (Ext.refl _ _)⟩
  clear hkl5
  intro mm5 gg5 w5 hI5
  obtain ⟨xl1_t8, hkl5, hsl1_0, hsl1_1, hsl1_7, hsl1_8, hO5, e5⟩ := hI5
  obtain ⟨kl5, yl5, rfl, h, hyl5⟩ := iterE hkl5
  clear hkl5
  obtain ⟨qq5, rfl⟩ := fr4 hsl1_0 hsl1_1 hsl1_7 hsl1_8
  clear hsl1_0 hsl1_1 hsl1_7 hsl1_8
  refine c_seq ?_
  refine c_reg ?_
  refine c_lss rfl rfl (fun h9 => ?_) (fun h9 => ?_)
  · replace h := iT h9 h
    refine s_nil ?_
    refine c_next ?_
    refine c_seq ?_
    refine c_condT rfl ?_
    refine c_skip ?_
    refine c_next ?_
    refine c_seq ?_
    refine c_block ?_
    refine c_seq ?_
    refine c_reg ?_
    refine sv (r_move (v := .int _ _) rfl) ?_
    refine sv (r_assign (v := .int _ _) rfl) ?_
    refine s_nil ?_
    refine c_next ?_
    refine c_seq ?_
    refine c_reg ?_
    refine sv (r_move (v := .func _ _ _) rfl) ?_
    refine sv (r_move (v := .slice _ _ _) rfl) ?_
    refine sv (r_move (v := .int _ _) rfl) ?_
    obtain ⟨y14, hy14, h⟩ := bindE h
    refine a_idx (e := e_ticket_Ticket) (xs := x0) (i := xl1_t8) Try.underlying25 I59 rfl rfl (Rd.cs (hR0p.ext e5)) e_ticket_Ticket_len (by decide) hm0p hy14 ?_
    intro p14 hp14
    refine s_loadN (cs := [(.int .i64 y14.No), (.int .i64 y14.For), (.int .i64 y14.Until)]) Try.underlying59 rfl I59 rfl rfl hp14 ?_
    obtain ⟨y16, hy16, h⟩ := bindE h
    refine s_callV (fv := fP1) (cv := kP1) hcfP1 rfl rfl (hclP1 y14 _ _ _ hy16 (hIxP1 hIP1 e5) hO5) ?_
    rintro er16 w6 ⟨rfl, hO6, e6⟩
    refine ⟨_, rfl, ?_⟩
    refine s_nil ?_
    refine c_next ?_
    rcases Bool.eq_false_or_eq_true (y16) with hb7 | hb7
    · replace h := iT hb7 h
      refine c_condT (congrArg Value.bool hb7) ?_
      refine c_seq ?_
      refine c_reg ?_
      refine sv (r_move (v := .int _ _) rfl) ?_
      refine sv (r_assign (v := .int _ _) rfl) ?_
      refine s_nil ?_
      refine c_next ?_
      refine c_ret ?_
      refine r_block ?_
      refine r_then ?_
      refine r_then ?_
      refine r_block ?_
      refine r_then ?_
      replace h := crossE h hyl5
      refine e_1 (v := .int _ _) Try.results70 rfl ?_
      rw [← Option.some.inj h]
      exact ⟨rfl, hO6, (e5.trans e6)⟩
    replace h := iF (nt hb7) h
    refine c_condF (congrArg Value.bool hb7) ?_
    refine c_skip ?_
    refine x_norm ?_
    refine c_next ?_
    refine c_reg ?_
    refine sv (r_addI (a := xl1_t8) (b := 1) rfl rfl) ?_
    refine sv (r_move (v := .int _ _) rfl) ?_
    refine s_nil ?_
    refine l_end (m' := kl5) (Nat.lt_succ_self _) ?_
    rw [← Option.some.inj h] at hyl5
    exact ⟨(w64 (xl1_t8 + 1)), hyl5, rfl, rfl, rfl, rfl, hO6, (e5.trans e6)⟩
  replace h := iF (Int.not_lt.2 h9) h
  refine s_nil ?_
  refine c_next ?_
  refine c_seq ?_
  refine c_condF rfl ?_
  refine c_exit ?_
  refine x_then ?_
  refine x_then ?_
  refine x_same ?_
  replace h := crossE h hyl5
  refine c_next ?_
  refine c_seq ?_
  refine c_reg ?_
  refine sv (r_assign (v := .int _ _) rfl) ?_
  refine s_nil ?_
  refine c_next ?_
  refine c_ret ?_
  refine e_1 (v := .int _ _) Try.results70 rfl ?_
  rw [← Option.some.inj h]
  exact ⟨rfl, hO5, e5⟩
theorem c_slices_DeleteFunc_ticket_Ticket (x0 : (List T_ticket_Ticket)) (x1 : (T_ticket_Ticket → Option Bool)) (aP0 : Option Addr) (mP0 cP0 : Nat) (SP0 : Hp) (gP1 : FuncId) (fP1 kP1 : List Value) (InvP1 : World → Hp → Prop) (hcfP1 : ∀ (args : Array Value) (w : World), (callFunc gP1 args).run Try.prog w = .ok (.enter gP1 args) w) (hIxP1 : ∀ {w w' : World} {L L' : Hp}, InvP1 w L → Ext w L w' L' → InvP1 w' L') (hclP1 : ∀ (z0 : T_ticket_Ticket) (r : Bool) (w : World) (L : Hp), x1 z0 = some r → InvP1 w L → Own w L → Calls Try.prog gP1 (fP1 ++ ([(.agg #[(.int .i64 z0.No), (.int .i64 z0.For), (.int .i64 z0.Until)])] : List Value) ++ kP1).toArray w fun en w' => en = .returned (.bool r) ∧ Own w' L ∧ Ext w L w' L) (r : (List T_ticket_Ticket)) (h : F_slices_DeleteFunc_ticket_Ticket x0 x1 = some r) (w : World) (L : Hp) (hm0p : x0.length = mP0) (hSP0 : OwnSl 59 3 aP0 mP0 cP0 (fl e_ticket_Ticket x0) SP0) (hIP1 : InvP1 w (SP0 ++ L)) (hO : Own w (SP0 ++ L)) :
    Calls Try.prog 78 #[(.slice aP0 mP0 cP0), (.func (.func gP1) fP1.toArray kP1.toArray)] w fun en w' => ∃ (ra0 : Option Addr) (rm0 rc0 : Nat) (rS0 : Hp), en = .returned (.slice ra0 rm0 rc0) ∧ r.length = rm0 ∧ OwnSl 59 3 ra0 rm0 rc0 (fl e_ticket_Ticket r) rS0 ∧ Own w' (rS0 ++ L) ∧ Ext w (SP0 ++ L) w' (rS0 ++ L) := by
  unfold F_slices_DeleteFunc_ticket_Ticket at h
  refine enter (n := 42) [(.slice aP0 mP0 cP0), (.func (.func gP1) fP1.toArray kP1.toArray)] Try.func78 rfl rfl (Nat.le_of_ble_eq_true rfl) ?_
  refine c_seq ?_
  refine c_reg ?_
  refine sv (r_assign (v := .slice _ _ _) rfl) ?_
  refine s_nil ?_
  refine c_next ?_
  refine c_seq ?_
  refine c_reg ?_
  refine sv (r_move (v := .slice _ _ _) rfl) ?_
  refine sv (r_move (v := .func _ _ _) rfl) ?_
  have hR4 := (hSP0.drop hO).2.2
  obtain ⟨hO4, e4⟩ := hO.dropS
  obtain ⟨y10, hy10, h⟩ := bindE h
  refine s_call cf70 rfl (c_slices_IndexFunc_ticket_Ticket x0 x1 aP0 mP0 cP0 gP1 fP1 kP1 InvP1 hcfP1 hIxP1 hclP1 _ hy10 _ _ hm0p hSP0.le.1 hR4 (hIxP1 hIP1 e4) hO4) ?_
  rintro er10 w5 ⟨rfl, hO5, e5⟩
  obtain ⟨hO6, e6⟩ := Own.lend hO hO5 e5
  refine ⟨_, rfl, ?_⟩
  refine sv (r_assign (v := .int _ _) rfl) ?_
  refine s_nil ?_
  refine c_next ?_
  refine c_seq ?_
  have hIP1 := (hIxP1 hIP1 e6)
  obtain ⟨oc7, G7, hG7, h, hr7⟩ := bindG h
  refine c_cutL hO6 (fun Lc f0 g w' => ∃ (xc1_t12 : Bool), (G7 xc1_t12 = some r) ∧ g 0 = (.slice aP0 mP0 cP0) ∧ g 1 = (.func (.func gP1) fP1.toArray kP1.toArray) ∧ g 5 = (.int .i64 y10) ∧ g 12 = (.bool xc1_t12) ∧ Own w' (SP0 ++ L) ∧ Ext w5 Lc w' (SP0 ++ L)) ?_ ?_
  · skip
    refine c_reg ?_
    refine sv (r_move (v := .int _ _) rfl) ?_
    refine c_eql rfl rfl (fun h12 => ?_) (fun h12 => ?_)
    · replace h := iT h12 h
      refine s_nil ?_
      refine c_next ?_
      rw [← Option.some.inj h] at hr7
      exact ⟨_, rfl, true, hr7, rfl, rfl, rfl, rfl, hO6, (Ext.refl _ _)⟩
    replace h := iF h12 h
    refine s_nil ?_
    refine c_next ?_
    rw [← Option.some.inj h] at hr7
    exact ⟨_, rfl, false, hr7, rfl, rfl, rfl, rfl, hO6, (Ext.refl _ _)⟩
  intro gg7 w7 hI7
  clear h hr7
  obtain ⟨xc1_t12, h, hsc1_0, hsc1_1, hsc1_5, hsc1_12, hO7, e7⟩ := hI7
  replace h := hG_ hG7 h; clear hG7
  obtain ⟨qq7, rfl⟩ := fr4 hsc1_0 hsc1_1 hsc1_5 hsc1_12
  clear hsc1_0 hsc1_1 hsc1_5 hsc1_12
  rcases Bool.eq_false_or_eq_true (xc1_t12) with hb8 | hb8
  · replace h := iT hb8 h
    refine c_condT (congrArg Value.bool hb8) ?_
    refine c_seq ?_
    refine c_reg ?_
    refine sv (r_move (v := .slice _ _ _) rfl) ?_
    refine sv (r_assign (v := .slice _ _ _) rfl) ?_
    refine s_nil ?_
    refine c_next ?_
    refine c_ret ?_
    refine r_then ?_
    refine e_1 (v := .slice _ _ _) Try.results78 rfl ?_
    rw [← Option.some.inj h]
    exact ⟨aP0, mP0, cP0, SP0, rfl, hm0p, hSP0, hO7, (e6.trans e7)⟩
  replace h := iF (nt hb8) h
  refine c_condF (congrArg Value.bool hb8) ?_
  refine c_skip ?_
  refine c_next ?_
  refine c_seq ?_
  refine c_seq ?_
  refine c_reg ?_
  refine sv (r_move (v := .int _ _) rfl) ?_
  refine sv (r_addI (a := y10) (b := 1) rfl rfl) ?_
  refine sv (r_assign (v := .int _ _) rfl) ?_
  refine s_nil ?_
  refine c_next ?_
  refine c_block ?_
  have hIP1 := (hIxP1 hIP1 e7)
  obtain ⟨kl88, hkl88⟩ := loop_iff.1 h
  clear h
  refine c_loopL hO7 (fun Lc f0 m g wl => ∃ (xl2_t0 : (List T_ticket_Ticket)) (xl2_t5 : Int) (xl2_t6 : Int) (al2_0 : Option Addr) (ml2_0 cl2_0 : Nat) (Sl2_0 : Hp), (iterK (slices_DeleteFunc_ticket_Ticket_l2 x1) m (xl2_t0, xl2_t5, xl2_t6) = some r) ∧ g 0 = (.slice al2_0 ml2_0 cl2_0) ∧ g 1 = (.func (.func gP1) fP1.toArray kP1.toArray) ∧ g 5 = (.int .i64 xl2_t5) ∧ g 6 = (.int .i64 xl2_t6) ∧ xl2_t0.length = ml2_0 ∧ OwnSl 59 3 al2_0 ml2_0 cl2_0 (fl e_ticket_Ticket xl2_t0) Sl2_0 ∧ Own wl (Sl2_0 ++ L) ∧ Ext w7 Lc wl (Sl2_0 ++ L)) kl88 ?_ ?_
  · skip
    exact ⟨x0, y10, (w64 (y10 + 1)), aP0, mP0, cP0, SP0, hkl88, rfl, rfl, rfl, rfl, hm0p, hSP0, hO7, (Ext.refl _ _)⟩
  clear hkl88
  intro mm88 gg88 w88 hI88
  obtain ⟨xl2_t0, xl2_t5, xl2_t6, al2_0, ml2_0, cl2_0, Sl2_0, hkl88, hsl2_0, hsl2_1, hsl2_5, hsl2_6, hml2_0, hSl2_0, hO88, e88⟩ := hI88
  obtain ⟨kl88, yl88, rfl, h, hyl88⟩ := iterE hkl88
  clear hkl88
  obtain ⟨qq88, rfl⟩ := fr4 hsl2_0 hsl2_1 hsl2_5 hsl2_6
  clear hsl2_0 hsl2_1 hsl2_5 hsl2_6
  refine c_seq ?_
  have hIP1 := (hIxP1 hIP1 e88)
  obtain ⟨oc89, G89, hG89, h, hr89⟩ := bindG h
  refine c_cutL hO88 (fun Lc f0 g w' => ∃ (xc3_t19 : Bool), (G89 xc3_t19 = some yl88) ∧ g 0 = (.slice al2_0 ml2_0 cl2_0) ∧ g 1 = (.func (.func gP1) fP1.toArray kP1.toArray) ∧ g 5 = (.int .i64 xl2_t5) ∧ g 6 = (.int .i64 xl2_t6) ∧ g 19 = (.bool xc3_t19) ∧ Own w' (Sl2_0 ++ L) ∧ Ext w88 Lc w' (Sl2_0 ++ L)) ?_ ?_
  · skip
    refine c_reg ?_
    refine sv (r_move (v := .int _ _) rfl) ?_
    refine sv (r_move (v := .slice _ _ _) rfl) ?_
    refine sv (r_lenL (xs := xl2_t0) Try.underlying25 rfl hml2_0) ?_
    refine c_lss rfl rfl (fun h19 => ?_) (fun h19 => ?_)
    · replace h := iT h19 h
      refine s_nil ?_
      refine c_next ?_
      rw [← Option.some.inj h] at hr89
      exact ⟨_, rfl, true, hr89, rfl, rfl, rfl, rfl, rfl, hO88, (Ext.refl _ _)⟩
    replace h := iF (Int.not_lt.2 h19) h
    refine s_nil ?_
    refine c_next ?_
    rw [← Option.some.inj h] at hr89
    exact ⟨_, rfl, false, hr89, rfl, rfl, rfl, rfl, rfl, hO88, (Ext.refl _ _)⟩
  intro gg89 w89 hI89
  clear h hr89
  obtain ⟨xc3_t19, h, hsc3_0, hsc3_1, hsc3_5, hsc3_6, hsc3_19, hO89, e89⟩ := hI89
  replace h := hG_ hG89 h; clear hG89
  obtain ⟨qq89, rfl⟩ := fr5 hsc3_0 hsc3_1 hsc3_5 hsc3_6 hsc3_19
  clear hsc3_0 hsc3_1 hsc3_5 hsc3_6 hsc3_19
  rcases Bool.eq_false_or_eq_true (xc3_t19) with hb90 | hb90
  · replace h := iT hb90 h
    refine c_condT (congrArg Value.bool hb90) ?_
    refine c_skip ?_
    refine c_next ?_
    refine c_seq ?_
    refine c_block ?_
    refine c_seq ?_
    refine c_reg ?_
    refine sv (r_move (v := .slice _ _ _) rfl) ?_
    refine sv (r_move (v := .int _ _) rfl) ?_
    obtain ⟨y24, hy24, h⟩ := bindE h
    refine a_idx (e := e_ticket_Ticket) (xs := xl2_t0) (i := xl2_t6) Try.underlying25 I59 rfl rfl (hSl2_0.cs hO89) e_ticket_Ticket_len (by decide) hml2_0 hy24 ?_
    intro p24 hp24
    refine s_loadN (cs := [(.int .i64 y24.No), (.int .i64 y24.For), (.int .i64 y24.Until)]) Try.underlying59 rfl I59 rfl rfl hp24 ?_
    refine s_alloc I59 hO89 ?_
    intro b7 w103 hz7 hl7 hO103 e103
    have hO104 : Own w103 ((b7, .cells #[(.int .i64 0), (.int .i64 0), (.int .i64 0)] 59 (0, 0)) :: (Sl2_0 ++ L)) := hO103
    refine s_storeN (vs := #[(.int .i64 y24.No), (.int .i64 y24.For), (.int .i64 y24.Until)]) I59 rfl rfl rfl hO104 (i := 0) rfl (Nat.le_of_ble_eq_true rfl) (List.all_eq_true.1 rfl) ?_
    intro w106 hO106 e106
    have hO107 : Own w106 ((b7, .cells #[(.int .i64 y24.No), (.int .i64 y24.For), (.int .i64 y24.Until)] 59 (0, 0)) :: (Sl2_0 ++ L)) := hO106
    refine s_nil ?_
    refine c_next ?_
    refine c_seq ?_
    refine c_reg ?_
    refine sv (r_move (v := .func _ _ _) rfl) ?_
    refine s_loadAll Try.underlying59 rfl I59 rfl (hO107.get (i := 0) rfl) rfl rfl ?_
    obtain ⟨y28, hy28, h⟩ := bindE h
    refine s_callV (fv := fP1) (cv := kP1) hcfP1 rfl rfl (hclP1 y24 _ _ _ hy28 (hIxP1 hIP1 (e89.trans (e103.trans e106))) hO107) ?_
    rintro er28 w110 ⟨rfl, hO110, e110⟩
    refine ⟨_, rfl, ?_⟩
    refine sv (r_not (b := y28) rfl) ?_
    refine s_nil ?_
    refine c_next ?_
    rcases Bool.eq_false_or_eq_true (y28) with hb111 | hb111
    · replace h := iT hb111 h
      refine c_condF (congrArg Value.bool (nnt hb111)) ?_
      refine c_skip ?_
      refine x_norm ?_
      refine c_next ?_
      refine c_reg ?_
      refine sv (r_move (v := .int _ _) rfl) ?_
      refine sv (r_addI (a := xl2_t6) (b := 1) rfl rfl) ?_
      refine sv (r_assign (v := .int _ _) rfl) ?_
      refine s_nil ?_
      refine l_end (m' := kl88) (Nat.lt_succ_self _) ?_
      rw [← Option.some.inj h] at hyl88
      obtain ⟨hO112, e112⟩ := hO110.drop1
      exact ⟨xl2_t0, xl2_t5, (w64 (xl2_t6 + 1)), al2_0, ml2_0, cl2_0, Sl2_0, hyl88, rfl, rfl, rfl, rfl, hml2_0, hSl2_0, hO112, (e88.trans (e89.trans (e103.trans (e106.trans (e110.trans e112)))))⟩
    replace h := iF (nt hb111) h
    refine c_condT (congrArg Value.bool (nnf hb111)) ?_
    refine c_seq ?_
    refine c_reg ?_
    refine sv (r_move (v := .slice _ _ _) rfl) ?_
    refine sv (r_move (v := .int _ _) rfl) ?_
    refine s_loadAll Try.underlying59 rfl I59 rfl (hO110.get (i := 0) rfl) rfl rfl ?_
    obtain ⟨y33, hy33, h⟩ := bindE h
    refine a_idxO (xs := xl2_t0) (i := xl2_t5) Try.underlying25 I59 rfl rfl hSl2_0 hml2_0 hy33 ?_
    intro g33 hg33
    obtain ⟨hO117, e117⟩ := hO110.permE (pmC pm0)
    refine a_storeO (e := e_ticket_Ticket) (v' := y24) (vs := [(.int .i64 y24.No), (.int .i64 y24.For), (.int .i64 y24.Until)]) (off := 0) (size := 3) I59 rfl rfl rfl rfl hg33 hSl2_0 hO117 e_ticket_Ticket_len hml2_0 hy33 (Nat.le_of_ble_eq_true rfl) (List.all_eq_true.1 rfl) rfl ?_
    intro S118n w116 hS118n hO116 e116
    have hm118n := (show (List.set xl2_t0 (xl2_t5 : Int).toNat y24).length = xl2_t0.length from List.length_set).trans hml2_0
    refine s_nil ?_
    refine c_next ?_
    refine c_reg ?_
    refine sv (r_move (v := .int _ _) rfl) ?_
    refine sv (r_addI (a := xl2_t5) (b := 1) rfl rfl) ?_
    refine sv (r_assign (v := .int _ _) rfl) ?_
    refine s_nil ?_
    refine x_norm ?_
    refine c_next ?_
    refine c_reg ?_
    refine sv (r_move (v := .int _ _) rfl) ?_
    refine sv (r_addI (a := xl2_t6) (b := 1) rfl rfl) ?_
    refine sv (r_assign (v := .int _ _) rfl) ?_
    refine s_nil ?_
    refine l_end (m' := kl88) (Nat.lt_succ_self _) ?_
    rw [← Option.some.inj h] at hyl88
    obtain ⟨hO119, e119⟩ := hO116.permE (pmbA pmb0)
    obtain ⟨hO120, e120⟩ := hO119.drop1
    exact ⟨(xl2_t0.set (xl2_t5 : Int).toNat y24), (w64 (xl2_t5 + 1)), (w64 (xl2_t6 + 1)), al2_0, ml2_0, cl2_0, S118n, hyl88, rfl, rfl, rfl, rfl, hm118n, hS118n, hO120, (e88.trans (e89.trans (e103.trans (e106.trans (e110.trans (e117.trans (e116.trans (e119.trans e120))))))))⟩
  replace h := iF (nt hb90) h
  refine c_condF (congrArg Value.bool hb90) ?_
  refine c_exit ?_
  refine x_then ?_
  refine x_then ?_
  refine x_same ?_
  replace h := crossE h hyl88
  refine c_next ?_
  refine c_seq ?_
  refine c_reg ?_
  refine sv (r_move (v := .slice _ _ _) rfl) ?_
  refine sv (r_move (v := .int _ _) rfl) ?_
  obtain ⟨y38, hy38, h⟩ := bindE h
  obtain ⟨hb380, hb381, hb382⟩ := cut_bnd hy38 hml2_0
  have hb383 : (xl2_t5 : Int) ≤ (ml2_0 : Int) := by have := hml2_0; omega
  refine s_cut (mx := none) (l := (xl2_t5 : Int).toNat) (h := ml2_0) (q := cl2_0) Try.underlying25 I59 rfl (sb_l hb380 hb383) ?_
  intro a38 ha38
  refine a_clearO (e := e_ticket_Ticket) (xs := xl2_t0) (l := (xl2_t5 : Int).toNat) Try.underlying25 I59 rfl (List.all_eq_true.1 rfl) rfl ha38 hSl2_0 hO89 e_ticket_Ticket_len hml2_0 (by omega) ?_
  intro jk122 S122j w121 hS122j hO121 e121
  refine s_nil ?_
  refine c_next ?_
  refine c_seq ?_
  refine c_reg ?_
  refine sv (r_move (v := .slice _ _ _) rfl) ?_
  refine sv (r_move (v := .int _ _) rfl) ?_
  obtain ⟨y41, hy41, h⟩ := bindE h
  refine a_shrink (e := e_ticket_Ticket) (xs := (List.take (xl2_t5 : Int).toNat xl2_t0)) (junk := jk122) (h := xl2_t5) Try.underlying25 I59 rfl rfl hS122j (by have := hml2_0; simp only [List.length_take]; omega) e_ticket_Ticket_len hy41 ?_
  intro m41 hm41 hS41
  refine sv (r_assign (v := .slice _ _ _) rfl) ?_
  refine s_nil ?_
  refine c_next ?_
  refine c_ret ?_
  refine e_1 (v := .slice _ _ _) Try.results78 rfl ?_
  rw [← Option.some.inj h]
  exact ⟨al2_0, m41, cl2_0, S122j, rfl, hm41, hS41, hO121, (e6.trans (e7.trans (e88.trans (e89.trans e121))))⟩
theorem c_ticket_Live (x0 : (List T_ticket_Ticket)) (x1 : Int) (aP0 : Option Addr) (mP0 cP0 : Nat)  (r : (List T_ticket_Ticket)) (h : F_ticket_Live x0 x1 = some r) (w : World) (L : Hp) (hm0p : x0.length = mP0) (hc0p : mP0 ≤ cP0) (hR0p : Rd w L aP0 (fl e_ticket_Ticket x0)) (hO : Own w L) :
    Calls Try.prog 69 #[(.slice aP0 mP0 cP0), (.int .i64 x1)] w fun en w' => ∃ (ra0 : Option Addr) (rm0 rc0 : Nat) (rS0 : Hp), en = .returned (.slice ra0 rm0 rc0) ∧ r.length = rm0 ∧ OwnSl 59 3 ra0 rm0 rc0 (fl e_ticket_Ticket r) rS0 ∧ Own w' (rS0 ++ L) ∧ Ext w L w' (rS0 ++ L) := by
  unfold F_ticket_Live at h
  refine enter (n := 9) [(.slice aP0 mP0 cP0), (.int .i64 x1)] Try.func69 rfl rfl (Nat.le_of_ble_eq_true rfl) ?_
  refine c_seq ?_
  refine c_reg ?_
  refine s_box (v := (.int .i64 x1)) rfl hO ?_
  intro b3 w1 hz3 hl3 hO1 e1
  have hO2 : Own w1 ((b3, .cells #[(.int .i64 x1)] 3 (0, 0)) :: L) := hO1
  refine sv (r_assign (v := .slice _ _ _) rfl) ?_
  refine s_nil ?_
  refine c_next ?_
  refine c_seq ?_
  refine c_reg ?_
  refine sv (r_move (v := .slice _ _ _) rfl) ?_
  obtain ⟨y6, hy6, h⟩ := bindE h
  refine s_call cf25 rfl (c_slices_Clone_ticket_Ticket x0 aP0 mP0 cP0 _ hy6 _ _ hm0p hc0p (hR0p.ext e1) hO2) ?_
  rintro er6 w4 ⟨a6_0, m6_0, c6_0, S6_0, rfl, hm6_0, hS6_0, hO4, e4⟩
  refine ⟨_, rfl, ?_⟩
  refine sv (r_makeFunc (fv := []) (cv := [(.pointer (some ⟨b3, 0, none⟩))]) rfl rfl) ?_
  obtain ⟨hO5, e5⟩ := hO4.permE (pmbA pmb0)
  have hR6 : Rd w4 (S6_0 ++ L) (some ⟨b3, 0, none⟩) [(.int .i64 x1)] := boxRd hO5
  obtain ⟨hO6, e6⟩ := hO5.drop1
  obtain ⟨y8, hy8, h⟩ := bindE h
  refine s_call cf78 rfl (c_slices_DeleteFunc_ticket_Ticket y6 (fun z0 => F_ticket_Live_1 z0 x1) a6_0 m6_0 c6_0 S6_0 79 [] [(.pointer (some ⟨b3, 0, none⟩))] (fun w L => Rd w L (some ⟨b3, 0, none⟩) [(.int .i64 x1)]) cf79 (fun hi e => hi.ext e) (fun z0 r w L h hi hO => c_ticket_Live_1 z0 x1 _ r h w L hi hO) _ hy8 _ _ hm6_0 hS6_0 hR6 hO6) ?_
  rintro er8 w7 ⟨a8_0, m8_0, c8_0, S8_0, rfl, hm8_0, hS8_0, hO7, e7⟩
  refine ⟨_, rfl, ?_⟩
  refine sv (r_assign (v := .slice _ _ _) rfl) ?_
  refine s_nil ?_
  refine c_next ?_
  refine c_ret ?_
  refine e_1 (v := .slice _ _ _) Try.results69 rfl ?_
  rw [← Option.some.inj h]
  exact ⟨a8_0, m8_0, c8_0, S8_0, rfl, hm8_0, hS8_0, hO7, (e1.trans (e4.trans (e5.trans (e6.trans e7))))⟩
theorem c_ticket_one (x0 : T_ticket_Ticket)   (r : Bool) (h : F_ticket_one x0 = some r) (w : World) (L : Hp)  (hO : Own w L) :
    Calls Try.prog 54 #[(.agg #[(.int .i64 x0.No), (.int .i64 x0.For), (.int .i64 x0.Until)])] w fun en w' => en = .returned (.bool r) ∧ Own w' L ∧ Ext w L w' L := by
  unfold F_ticket_one at h
  refine enter (n := 31) [(.agg #[(.int .i64 x0.No), (.int .i64 x0.For), (.int .i64 x0.Until)])] Try.func54 rfl rfl (Nat.le_of_ble_eq_true rfl) ?_
  refine c_seq ?_
  refine c_reg ?_
  refine s_box (v := (.agg #[(.int .i64 x0.No), (.int .i64 x0.For), (.int .i64 x0.Until)])) rfl hO ?_
  intro b1 w2 hz1 hl1 hO2 e2
  have hO3 : Own w2 ((b1, .cells #[(.int .i64 x0.No), (.int .i64 x0.For), (.int .i64 x0.Until)] 59 (0, 0)) :: L) := hO2
  refine sv (r_assign (v := .bool false) rfl) ?_
  refine s_nil ?_
  refine c_next ?_
  refine c_seq ?_
  refine c_reg ?_
  refine sv (r_fieldAddr Try.underlying59 rfl I3 (by decide) rfl) ?_
  refine s_load1 (v := .int _ _) Try.underlying3 rfl rfl (cellB (hO3.get (i := 0) rfl) rfl rfl) ?_
  refine c_geq rfl rfl (fun h5 => ?_) (fun h5 => ?_)
  · replace h := iT h5 h
    refine sv (r_move (v := .bool true) rfl) ?_
    refine g_do 6 (by rfl) rfl ?_
    refine sv (r_fieldAddr Try.underlying59 rfl I3 (by decide) rfl) ?_
    refine g_do 6 (by rfl) rfl ?_
    refine s_load1 (v := .int _ _) Try.underlying3 rfl rfl (cellB (hO3.get (i := 0) rfl) rfl rfl) ?_
    refine g_do 6 (by rfl) rfl ?_
    refine c_leq rfl rfl (fun h9 => ?_) (fun h9 => ?_)
    · replace h := iT h9 h
      refine sv (r_pickT (v := .bool true) rfl rfl) ?_
      refine sv (r_move (v := .bool true) rfl) ?_
      refine g_do 11 (by rfl) rfl ?_
      refine sv (r_fieldAddr Try.underlying59 rfl I3 (by decide) rfl) ?_
      refine g_do 11 (by rfl) rfl ?_
      refine s_load1 (v := .int _ _) Try.underlying3 rfl rfl (cellB (hO3.get (i := 0) rfl) rfl rfl) ?_
      refine g_do 11 (by rfl) rfl ?_
      refine c_geq rfl rfl (fun h14 => ?_) (fun h14 => ?_)
      · replace h := iT h14 h
        refine sv (r_pickT (v := .bool true) rfl rfl) ?_
        refine sv (r_move (v := .bool true) rfl) ?_
        refine g_do 16 (by rfl) rfl ?_
        refine sv (r_fieldAddr Try.underlying59 rfl I3 (by decide) rfl) ?_
        refine g_do 16 (by rfl) rfl ?_
        refine s_load1 (v := .int _ _) Try.underlying3 rfl rfl (cellB (hO3.get (i := 0) rfl) rfl rfl) ?_
        refine g_do 16 (by rfl) rfl ?_
        refine c_lss rfl rfl (fun h19 => ?_) (fun h19 => ?_)
        · replace h := iT h19 h
          refine sv (r_pickT (v := .bool true) rfl rfl) ?_
          refine sv (r_move (v := .bool true) rfl) ?_
          refine g_do 21 (by rfl) rfl ?_
          refine sv (r_fieldAddr Try.underlying59 rfl I3 (by decide) rfl) ?_
          refine g_do 21 (by rfl) rfl ?_
          refine s_load1 (v := .int _ _) Try.underlying3 rfl rfl (cellB (hO3.get (i := 0) rfl) rfl rfl) ?_
          refine g_do 21 (by rfl) rfl ?_
          refine c_geq rfl rfl (fun h24 => ?_) (fun h24 => ?_)
          · replace h := iT h24 h
            refine sv (r_pickT (v := .bool true) rfl rfl) ?_
            refine sv (r_move (v := .bool true) rfl) ?_
            refine g_do 26 (by rfl) rfl ?_
            refine sv (r_fieldAddr Try.underlying59 rfl I3 (by decide) rfl) ?_
            refine g_do 26 (by rfl) rfl ?_
            refine s_load1 (v := .int _ _) Try.underlying3 rfl rfl (cellB (hO3.get (i := 0) rfl) rfl rfl) ?_
            refine g_do 26 (by rfl) rfl ?_
            refine c_leq rfl rfl (fun h29 => ?_) (fun h29 => ?_)
            · replace h := iT h29 h
              refine sv (r_pickT (v := .bool true) rfl rfl) ?_
              refine sv (r_assign (v := .bool true) rfl) ?_
              refine s_nil ?_
              refine c_next ?_
              refine c_ret ?_
              refine e_1 (v := .bool true) Try.results54 rfl ?_
              obtain ⟨hO5, e5⟩ := hO3.drop1
              rw [← Option.some.inj h]
              exact ⟨rfl, hO5, (e2.trans e5)⟩
            replace h := iF (Int.not_le.2 h29) h
            refine sv (r_pickT (v := .bool false) rfl rfl) ?_
            refine sv (r_assign (v := .bool false) rfl) ?_
            refine s_nil ?_
            refine c_next ?_
            refine c_ret ?_
            refine e_1 (v := .bool false) Try.results54 rfl ?_
            obtain ⟨hO6, e6⟩ := hO3.drop1
            rw [← Option.some.inj h]
            exact ⟨rfl, hO6, (e2.trans e6)⟩
          replace h := iF (Int.not_le.2 h24) h
          refine sv (r_pickT (v := .bool false) rfl rfl) ?_
          refine sv (r_move (v := .bool false) rfl) ?_
          refine g_skip 26 (by rfl) rfl (by rfl) ?_
          refine g_skip 26 (by rfl) rfl (by rfl) ?_
          refine g_skip 26 (by rfl) rfl (by rfl) ?_
          refine sv (r_pickF (v := .bool false) rfl rfl) ?_
          refine sv (r_assign (v := .bool false) rfl) ?_
          refine s_nil ?_
          refine c_next ?_
          refine c_ret ?_
          refine e_1 (v := .bool false) Try.results54 rfl ?_
          obtain ⟨hO7, e7⟩ := hO3.drop1
          rw [← Option.some.inj h]
          exact ⟨rfl, hO7, (e2.trans e7)⟩
        replace h := iF (Int.not_lt.2 h19) h
        refine sv (r_pickT (v := .bool false) rfl rfl) ?_
        refine sv (r_move (v := .bool false) rfl) ?_
        refine g_skip 21 (by rfl) rfl (by rfl) ?_
        refine g_skip 21 (by rfl) rfl (by rfl) ?_
        refine g_skip 21 (by rfl) rfl (by rfl) ?_
        refine sv (r_pickF (v := .bool false) rfl rfl) ?_
        refine sv (r_move (v := .bool false) rfl) ?_
        refine g_skip 26 (by rfl) rfl (by rfl) ?_
        refine g_skip 26 (by rfl) rfl (by rfl) ?_
        refine g_skip 26 (by rfl) rfl (by rfl) ?_
        refine sv (r_pickF (v := .bool false) rfl rfl) ?_
        refine sv (r_assign (v := .bool false) rfl) ?_
        refine s_nil ?_
        refine c_next ?_
        refine c_ret ?_
        refine e_1 (v := .bool false) Try.results54 rfl ?_
        obtain ⟨hO8, e8⟩ := hO3.drop1
        rw [← Option.some.inj h]
        exact ⟨rfl, hO8, (e2.trans e8)⟩
      replace h := iF (Int.not_le.2 h14) h
      refine sv (r_pickT (v := .bool false) rfl rfl) ?_
      refine sv (r_move (v := .bool false) rfl) ?_
      refine g_skip 16 (by rfl) rfl (by rfl) ?_
      refine g_skip 16 (by rfl) rfl (by rfl) ?_
      refine g_skip 16 (by rfl) rfl (by rfl) ?_
      refine sv (r_pickF (v := .bool false) rfl rfl) ?_
      refine sv (r_move (v := .bool false) rfl) ?_
      refine g_skip 21 (by rfl) rfl (by rfl) ?_
      refine g_skip 21 (by rfl) rfl (by rfl) ?_
      refine g_skip 21 (by rfl) rfl (by rfl) ?_
      refine sv (r_pickF (v := .bool false) rfl rfl) ?_
      refine sv (r_move (v := .bool false) rfl) ?_
      refine g_skip 26 (by rfl) rfl (by rfl) ?_
      refine g_skip 26 (by rfl) rfl (by rfl) ?_
      refine g_skip 26 (by rfl) rfl (by rfl) ?_
      refine sv (r_pickF (v := .bool false) rfl rfl) ?_
      refine sv (r_assign (v := .bool false) rfl) ?_
      refine s_nil ?_
      refine c_next ?_
      refine c_ret ?_
      refine e_1 (v := .bool false) Try.results54 rfl ?_
      obtain ⟨hO9, e9⟩ := hO3.drop1
      rw [← Option.some.inj h]
      exact ⟨rfl, hO9, (e2.trans e9)⟩
    replace h := iF (Int.not_le.2 h9) h
    refine sv (r_pickT (v := .bool false) rfl rfl) ?_
    refine sv (r_move (v := .bool false) rfl) ?_
    refine g_skip 11 (by rfl) rfl (by rfl) ?_
    refine g_skip 11 (by rfl) rfl (by rfl) ?_
    refine g_skip 11 (by rfl) rfl (by rfl) ?_
    refine sv (r_pickF (v := .bool false) rfl rfl) ?_
    refine sv (r_move (v := .bool false) rfl) ?_
    refine g_skip 16 (by rfl) rfl (by rfl) ?_
    refine g_skip 16 (by rfl) rfl (by rfl) ?_
    refine g_skip 16 (by rfl) rfl (by rfl) ?_
    refine sv (r_pickF (v := .bool false) rfl rfl) ?_
    refine sv (r_move (v := .bool false) rfl) ?_
    refine g_skip 21 (by rfl) rfl (by rfl) ?_
    refine g_skip 21 (by rfl) rfl (by rfl) ?_
    refine g_skip 21 (by rfl) rfl (by rfl) ?_
    refine sv (r_pickF (v := .bool false) rfl rfl) ?_
    refine sv (r_move (v := .bool false) rfl) ?_
    refine g_skip 26 (by rfl) rfl (by rfl) ?_
    refine g_skip 26 (by rfl) rfl (by rfl) ?_
    refine g_skip 26 (by rfl) rfl (by rfl) ?_
    refine sv (r_pickF (v := .bool false) rfl rfl) ?_
    refine sv (r_assign (v := .bool false) rfl) ?_
    refine s_nil ?_
    refine c_next ?_
    refine c_ret ?_
    refine e_1 (v := .bool false) Try.results54 rfl ?_
    obtain ⟨hO10, e10⟩ := hO3.drop1
    rw [← Option.some.inj h]
    exact ⟨rfl, hO10, (e2.trans e10)⟩
  replace h := iF (Int.not_le.2 h5) h
  refine sv (r_move (v := .bool false) rfl) ?_
  refine g_skip 6 (by rfl) rfl (by rfl) ?_
  refine g_skip 6 (by rfl) rfl (by rfl) ?_
  refine g_skip 6 (by rfl) rfl (by rfl) ?_
  refine sv (r_pickF (v := .bool false) rfl rfl) ?_
  refine sv (r_move (v := .bool false) rfl) ?_
  refine g_skip 11 (by rfl) rfl (by rfl) ?_
  refine g_skip 11 (by rfl) rfl (by rfl) ?_
  refine g_skip 11 (by rfl) rfl (by rfl) ?_
  refine sv (r_pickF (v := .bool false) rfl rfl) ?_
  refine sv (r_move (v := .bool false) rfl) ?_
  refine g_skip 16 (by rfl) rfl (by rfl) ?_
  refine g_skip 16 (by rfl) rfl (by rfl) ?_
  refine g_skip 16 (by rfl) rfl (by rfl) ?_
  refine sv (r_pickF (v := .bool false) rfl rfl) ?_
  refine sv (r_move (v := .bool false) rfl) ?_
  refine g_skip 21 (by rfl) rfl (by rfl) ?_
  refine g_skip 21 (by rfl) rfl (by rfl) ?_
  refine g_skip 21 (by rfl) rfl (by rfl) ?_
  refine sv (r_pickF (v := .bool false) rfl rfl) ?_
  refine sv (r_move (v := .bool false) rfl) ?_
  refine g_skip 26 (by rfl) rfl (by rfl) ?_
  refine g_skip 26 (by rfl) rfl (by rfl) ?_
  refine g_skip 26 (by rfl) rfl (by rfl) ?_
  refine sv (r_pickF (v := .bool false) rfl rfl) ?_
  refine sv (r_assign (v := .bool false) rfl) ?_
  refine s_nil ?_
  refine c_next ?_
  refine c_ret ?_
  refine e_1 (v := .bool false) Try.results54 rfl ?_
  obtain ⟨hO11, e11⟩ := hO3.drop1
  rw [← Option.some.inj h]
  exact ⟨rfl, hO11, (e2.trans e11)⟩
theorem c_ticket_Issue (x0 : (List T_ticket_Ticket)) (x1 : T_ticket_Ticket) (aP0 : Option Addr) (mP0 cP0 : Nat)  (r : ((List T_ticket_Ticket) × Int)) (h : F_ticket_Issue x0 x1 = some r) (w : World) (L : Hp) (hm0p : x0.length = mP0) (hc0p : mP0 ≤ cP0) (hR0p : Rd w L aP0 (fl e_ticket_Ticket x0)) (hO : Own w L) :
    Calls Try.prog 68 #[(.slice aP0 mP0 cP0), (.agg #[(.int .i64 x1.No), (.int .i64 x1.For), (.int .i64 x1.Until)])] w fun en w' => ∃ (ra0 : Option Addr) (rm0 rc0 : Nat) (rS0 : Hp), en = .returned (.tuple #[(.slice ra0 rm0 rc0), (.int .i64 r.2)]) ∧ r.1.length = rm0 ∧ OwnSl 59 3 ra0 rm0 rc0 (fl e_ticket_Ticket r.1) rS0 ∧ Own w' (rS0 ++ L) ∧ Ext w L w' (rS0 ++ L) := by
  unfold F_ticket_Issue at h
  refine enter (n := 40) [(.slice aP0 mP0 cP0), (.agg #[(.int .i64 x1.No), (.int .i64 x1.For), (.int .i64 x1.Until)])] Try.func68 rfl rfl (Nat.le_of_ble_eq_true rfl) ?_
  refine c_seq ?_
  refine c_reg ?_
  refine s_box (v := (.agg #[(.int .i64 x1.No), (.int .i64 x1.For), (.int .i64 x1.Until)])) rfl hO ?_
  intro b3 w2 hz3 hl3 hO2 e2
  have hO3 : Own w2 ((b3, .cells #[(.int .i64 x1.No), (.int .i64 x1.For), (.int .i64 x1.Until)] 59 (0, 0)) :: L) := hO2
  refine sv (r_assign (v := .slice _ _ _) rfl) ?_
  refine sv (r_assign (v := .int _ _) rfl) ?_
  refine s_nil ?_
  refine c_next ?_
  refine c_seq ?_
  refine c_reg ?_
  refine sv (r_move (v := .slice _ _ _) rfl) ?_
  obtain ⟨y8, hy8, h⟩ := bindE h
  refine s_call cf25 rfl (c_slices_Clone_ticket_Ticket x0 aP0 mP0 cP0 _ hy8 _ _ hm0p hc0p (hR0p.ext e2) hO3) ?_
  rintro er8 w6 ⟨a8_0, m8_0, c8_0, S8_0, rfl, hm8_0, hS8_0, hO6, e6⟩
  refine ⟨_, rfl, ?_⟩
  refine sv (r_assign (v := .slice _ _ _) rfl) ?_
  refine s_nil ?_
  refine c_next ?_
  refine c_seq ?_
  refine c_block ?_
  refine c_seq ?_
  refine c_reg ?_
  refine s_loadAll Try.underlying59 rfl I59 rfl ((hO6.perm (pmbA pmb0)).get (i := 0) rfl) rfl rfl ?_
  obtain ⟨y11, hy11, h⟩ := bindE h
  refine s_call cf54 rfl (c_ticket_one x1 _ hy11 _ _ hO6) ?_
  rintro er11 w15 ⟨rfl, hO15, e15⟩
  refine ⟨_, rfl, ?_⟩
  refine sv (r_not (b := y11) rfl) ?_
  refine sv (r_assign (v := .bool _) rfl) ?_
  refine s_nil ?_
  refine c_next ?_
  rcases Bool.eq_false_or_eq_true (y11) with hb16 | hb16
  · replace h := iT hb16 h
    refine c_condF (congrArg Value.bool (nnt hb16)) ?_
    have hR0p := (hR0p.ext (e2.trans (e6.trans e15)))
    obtain ⟨oc21, G21, hG21, h, hr21⟩ := bindG h
    refine c_cutL hO15 (fun Lc f0 g w' => ∃ (xc1_t14 : Bool), (G21 xc1_t14 = some r) ∧ g 0 = (.slice aP0 mP0 cP0) ∧ g 3 = (.pointer (some ⟨b3, 0, none⟩)) ∧ g 6 = (.slice a8_0 m8_0 c8_0) ∧ g 14 = (.bool xc1_t14) ∧ Own w' (S8_0 ++ ((b3, .cells #[(.int .i64 x1.No), (.int .i64 x1.For), (.int .i64 x1.Until)] 59 (0, 0)) :: L)) ∧ Ext w15 Lc w' (S8_0 ++ ((b3, .cells #[(.int .i64 x1.No), (.int .i64 x1.For), (.int .i64 x1.Until)] 59 (0, 0)) :: L))) ?_ ?_
    · skip
      refine d_startL hO15 hO15.r 16 (by kernel_rfl) (pk_then (pk_block (pk_then pk_body))) ?_
      intro hP23 wd23 hK23 hO22 e22
      refine dT (i := 0) (listed' := #[I_,O_,O_,O_,O_,O_,O_,O_,O_,O_,O_,O_,O_,O_,O_,O_]) rfl hP23 hK23 (fun wS hS => (r_move (v := .slice _ _ _) rfl)) ?_
      refine dT (i := 1) (listed' := #[I_,I_,O_,O_,O_,O_,O_,O_,O_,O_,O_,O_,O_,O_,O_,O_]) rfl hP23 hK23 (fun wS hS => (r_lenL (xs := x0) Try.underlying25 rfl hm0p)) ?_
      refine dt_gtr (i := 2) (listed' := #[I_,I_,I_,O_,O_,O_,O_,O_,O_,O_,O_,O_,O_,O_,O_,O_]) (by rfl) (by kernel_rfl) (by rfl) hP23.u rfl hK23 rfl rfl (fun h17 => ?_) (fun h17 => ?_)
      · replace h := iT h17 h
        refine dT (i := 3) (listed' := #[I_,I_,I_,I_,O_,O_,O_,O_,O_,O_,O_,O_,O_,O_,O_,O_]) rfl hP23 hK23 (fun wS hS => (r_move (v := .bool true) rfl)) ?_
        refine dG (i := 4) (listed' := #[I_,I_,I_,I_,I_,O_,O_,O_,O_,O_,O_,O_,O_,O_,O_,O_]) rfl 18 hP23 rfl hK23 (fun wS hS => (r_fieldAddr Try.underlying59 rfl I3 (by decide) rfl)) ?_
        refine dG (i := 5) (listed' := #[I_,I_,I_,I_,I_,I_,O_,O_,O_,O_,O_,O_,O_,O_,O_,O_]) rfl 18 hP23 rfl hK23 (fun wS hS => (r_load1 (v := .int _ _) Try.underlying3 rfl rfl (cellB (hS.own.get (i := 0) rfl) rfl rfl))) ?_
        refine dG (i := 6) (listed' := #[I_,I_,I_,I_,I_,I_,I_,O_,O_,O_,O_,O_,O_,O_,O_,O_]) rfl 18 hP23 rfl hK23 (fun wS hS => (r_move (v := .slice _ _ _) rfl)) ?_
        refine dG (i := 7) (listed' := #[I_,I_,I_,I_,I_,I_,I_,I_,O_,O_,O_,O_,O_,O_,O_,O_]) rfl 18 hP23 rfl hK23 (fun wS hS => (r_move (v := .slice _ _ _) rfl)) ?_
        refine dG (i := 8) (listed' := #[I_,I_,I_,I_,I_,I_,I_,I_,I_,O_,O_,O_,O_,O_,O_,O_]) rfl 18 hP23 rfl hK23 (fun wS hS => (r_lenL (xs := x0) Try.underlying25 rfl hm0p)) ?_
        refine dG (i := 9) (listed' := #[I_,I_,I_,I_,I_,I_,I_,I_,I_,I_,O_,O_,O_,O_,O_,O_]) rfl 18 hP23 rfl hK23 (fun wS hS => (r_subI (a := ((x0.length : Int))) (b := 1) rfl rfl)) ?_
        obtain ⟨y25, hy25, h⟩ := bindE h
        obtain ⟨ad25, had25, hk25⟩ := ix_known (e := e_ticket_Ticket) (Rd.cs hR0p) e_ticket_Ticket_len (by decide) hy25
        have hx25 : Value.slice aP0 mP0 cP0 = .slice (some ad25) mP0 cP0 := by rw [had25]
        refine dG (i := 10) (listed' := #[I_,I_,I_,I_,I_,I_,I_,I_,I_,I_,I_,O_,O_,O_,O_,O_]) rfl 18 hP23 rfl hK23 (fun wS hS => (ra_idx (xs := x0) (i := (w64 (((x0.length : Int)) - 1))) Try.underlying25 I59 (by exact hx25) (by rfl) hm0p hy25)) ?_
        refine dG (i := 11) (listed' := #[I_,I_,I_,I_,I_,I_,I_,I_,I_,I_,I_,I_,O_,O_,O_,O_]) rfl 18 hP23 rfl hK23 (fun wS hS => (r_fieldAddr Try.underlying59 rfl I3 (by decide) rfl)) ?_
        refine dG (i := 12) (listed' := #[I_,I_,I_,I_,I_,I_,I_,I_,I_,I_,I_,I_,I_,O_,O_,O_]) rfl 18 hP23 rfl hK23 (fun wS hS => (r_load1 (v := .int _ _) Try.underlying3 rfl rfl (cellP (hk25 _ (hR0p.kept hS)) 0 rfl))) ?_
        refine dt_leqG (i := 13) (listed' := #[I_,I_,I_,I_,I_,I_,I_,I_,I_,I_,I_,I_,I_,I_,O_,O_]) (by rfl) (by kernel_rfl) (by rfl) hP23.u 18 (by rfl) rfl hK23 rfl rfl (fun h28 => ?_) (fun h28 => ?_)
        · replace h := iT h28 h
          refine dT (i := 14) (listed' := #[I_,I_,I_,I_,I_,I_,I_,I_,I_,I_,I_,I_,I_,I_,I_,O_]) rfl hP23 hK23 (fun wS hS => (r_pickT (v := .bool true) rfl rfl)) ?_
          refine dT (i := 15) (listed' := #[I_,I_,I_,I_,I_,I_,I_,I_,I_,I_,I_,I_,I_,I_,I_,I_]) rfl hP23 hK23 (fun wS hS => (r_assign (v := .bool true) rfl)) ?_
          refine d_done (by kernel_rfl) ?_
          refine c_next ?_
          rw [← Option.some.inj h] at hr21
          exact ⟨_, rfl, true, hr21, rfl, rfl, rfl, rfl, hO22, e22⟩
        replace h := iF (Int.not_le.2 h28) h
        refine dT (i := 14) (listed' := #[I_,I_,I_,I_,I_,I_,I_,I_,I_,I_,I_,I_,I_,I_,I_,O_]) rfl hP23 hK23 (fun wS hS => (r_pickT (v := .bool false) rfl rfl)) ?_
        refine dT (i := 15) (listed' := #[I_,I_,I_,I_,I_,I_,I_,I_,I_,I_,I_,I_,I_,I_,I_,I_]) rfl hP23 hK23 (fun wS hS => (r_assign (v := .bool false) rfl)) ?_
        refine d_done (by kernel_rfl) ?_
        refine c_next ?_
        rw [← Option.some.inj h] at hr21
        exact ⟨_, rfl, false, hr21, rfl, rfl, rfl, rfl, hO22, e22⟩
      replace h := iF (Int.not_lt.2 h17) h
      refine dT (i := 3) (listed' := #[I_,I_,I_,I_,O_,O_,O_,O_,O_,O_,O_,O_,O_,O_,O_,O_]) rfl hP23 hK23 (fun wS hS => (r_move (v := .bool false) rfl)) ?_
      refine dS (i := 4) (listed' := #[I_,I_,I_,I_,I_,O_,O_,O_,O_,O_,O_,O_,O_,O_,O_,O_]) rfl 18 hP23 rfl hK23 ?_
      refine dS (i := 5) (listed' := #[I_,I_,I_,I_,I_,I_,O_,O_,O_,O_,O_,O_,O_,O_,O_,O_]) rfl 18 hP23 rfl hK23 ?_
      refine dS (i := 6) (listed' := #[I_,I_,I_,I_,I_,I_,I_,O_,O_,O_,O_,O_,O_,O_,O_,O_]) rfl 18 hP23 rfl hK23 ?_
      refine dS (i := 7) (listed' := #[I_,I_,I_,I_,I_,I_,I_,I_,O_,O_,O_,O_,O_,O_,O_,O_]) rfl 18 hP23 rfl hK23 ?_
      refine dS (i := 8) (listed' := #[I_,I_,I_,I_,I_,I_,I_,I_,I_,O_,O_,O_,O_,O_,O_,O_]) rfl 18 hP23 rfl hK23 ?_
      refine dS (i := 9) (listed' := #[I_,I_,I_,I_,I_,I_,I_,I_,I_,I_,O_,O_,O_,O_,O_,O_]) rfl 18 hP23 rfl hK23 ?_
      refine dS (i := 10) (listed' := #[I_,I_,I_,I_,I_,I_,I_,I_,I_,I_,I_,O_,O_,O_,O_,O_]) rfl 18 hP23 rfl hK23 ?_
      refine dS (i := 11) (listed' := #[I_,I_,I_,I_,I_,I_,I_,I_,I_,I_,I_,I_,O_,O_,O_,O_]) rfl 18 hP23 rfl hK23 ?_
      refine dS (i := 12) (listed' := #[I_,I_,I_,I_,I_,I_,I_,I_,I_,I_,I_,I_,I_,O_,O_,O_]) rfl 18 hP23 rfl hK23 ?_
      refine dS (i := 13) (listed' := #[I_,I_,I_,I_,I_,I_,I_,I_,I_,I_,I_,I_,I_,I_,O_,O_]) rfl 18 hP23 rfl hK23 ?_
      refine dT (i := 14) (listed' := #[I_,I_,I_,I_,I_,I_,I_,I_,I_,I_,I_,I_,I_,I_,I_,O_]) rfl hP23 hK23 (fun wS hS => (r_pickF (v := .bool false) rfl rfl)) ?_
      refine dT (i := 15) (listed' := #[I_,I_,I_,I_,I_,I_,I_,I_,I_,I_,I_,I_,I_,I_,I_,I_]) rfl hP23 hK23 (fun wS hS => (r_assign (v := .bool false) rfl)) ?_
      refine d_done (by kernel_rfl) ?_
      refine c_next ?_
      rw [← Option.some.inj h] at hr21
      exact ⟨_, rfl, false, hr21, rfl, rfl, rfl, rfl, hO22, e22⟩
    intro gg21 w21 hI21
    clear h hr21
    obtain ⟨xc1_t14, h, hsc1_0, hsc1_3, hsc1_6, hsc1_14, hO21, e21⟩ := hI21
    replace h := hG_ hG21 h; clear hG21
    obtain ⟨qq21, rfl⟩ := fr4 hsc1_0 hsc1_3 hsc1_6 hsc1_14
    clear hsc1_0 hsc1_3 hsc1_6 hsc1_14
    rcases Bool.eq_false_or_eq_true (xc1_t14) with hb24 | hb24
    · replace h := iT hb24 h
      refine c_condT (congrArg Value.bool hb24) ?_
      refine c_seq ?_
      refine c_reg ?_
      refine sv (r_move (v := .slice _ _ _) rfl) ?_
      refine sv (r_assign (v := .slice _ _ _) rfl) ?_
      refine sv (r_assign (v := .int _ _) rfl) ?_
      refine s_nil ?_
      refine c_next ?_
      refine c_ret ?_
      refine r_block ?_
      refine r_then ?_
      refine e_2 (v := .slice _ _ _) (v' := .int _ _) Try.results68 rfl rfl ?_
      obtain ⟨hO25, e25⟩ := hO21.permE (pmbA pmb0)
      obtain ⟨hO26, e26⟩ := hO25.drop1
      rw [← Option.some.inj h]
      exact ⟨a8_0, m8_0, c8_0, S8_0, rfl, hm8_0, hS8_0, hO26, (e2.trans (e6.trans (e15.trans (e21.trans (e25.trans e26)))))⟩
    replace h := iF (nt hb24) h
    refine c_condF (congrArg Value.bool hb24) ?_
    refine c_seq ?_
    refine c_reg ?_
    refine sv (r_move (v := .slice _ _ _) rfl) ?_
    refine sv (r_lenL (xs := x0) Try.underlying25 rfl hm0p) ?_
    refine c_geq rfl rfl (fun h34 => ?_) (fun h34 => ?_)
    · replace h := iT h34 h
      refine sv (r_assign (v := .bool true) rfl) ?_
      refine s_nil ?_
      refine c_next ?_
      refine c_condT rfl ?_
      refine c_seq ?_
      refine c_reg ?_
      refine sv (r_move (v := .slice _ _ _) rfl) ?_
      refine sv (r_assign (v := .slice _ _ _) rfl) ?_
      refine sv (r_assign (v := .int _ _) rfl) ?_
      refine s_nil ?_
      refine c_next ?_
      refine c_ret ?_
      refine r_block ?_
      refine r_then ?_
      refine e_2 (v := .slice _ _ _) (v' := .int _ _) Try.results68 rfl rfl ?_
      obtain ⟨hO27, e27⟩ := hO21.permE (pmbA pmb0)
      obtain ⟨hO28, e28⟩ := hO27.drop1
      rw [← Option.some.inj h]
      exact ⟨a8_0, m8_0, c8_0, S8_0, rfl, hm8_0, hS8_0, hO28, (e2.trans (e6.trans (e15.trans (e21.trans (e27.trans e28)))))⟩
    replace h := iF (Int.not_le.2 h34) h
    refine sv (r_assign (v := .bool false) rfl) ?_
    refine s_nil ?_
    refine c_next ?_
    refine c_condF rfl ?_
    refine c_skip ?_
    refine x_norm ?_
    refine c_next ?_
    refine c_seq ?_
    refine c_reg ?_
    refine sv (r_move (v := .slice _ _ _) rfl) ?_
    refine s_loadAll Try.underlying59 rfl I59 rfl ((hO21.perm (pmbA pmb0)).get (i := 0) rfl) rfl rfl ?_
    refine a_lit (en := e_ticket_Ticket) (xs := [x1]) (vs := [(.agg #[(.int .i64 x1.No), (.int .i64 x1.For), (.int .i64 x1.Until)])]) Try.underlying25 I59 hO21 rfl rfl (by simp [Value.cells]) (by decide) rfl e_ticket_Ticket_len rfl (by decide) ?_
    intro a38 m38 c38 S38 w29 hm38 hS38 hO29 e29
    have hR31 := (hS38.drop hO29).2.2
    obtain ⟨hO31, e31⟩ := hO29.dropS
    obtain ⟨y39, hy39, h⟩ := bindE h
    refine a_append (e := e_ticket_Ticket) (xs := y8) (ys := [x1]) Try.underlying25 I59 rfl (by decide) (by decide) rfl rfl hS8_0 hO31 (Rd.cs hR31) e_ticket_Ticket_len e_ticket_Ticket1 hm8_0 hm38 hy39 ?_
    intro a39 m39 c39 S39a w30 hm39 hS39a hO30 e30
    refine sv (r_assign (v := .slice _ _ _) rfl) ?_
    refine sv (r_assign (v := .int _ _) rfl) ?_
    refine s_nil ?_
    refine c_next ?_
    refine c_ret ?_
    refine e_2 (v := .slice _ _ _) (v' := .int _ _) Try.results68 rfl rfl ?_
    obtain ⟨hO32, e32⟩ := hO30.permE (pmbA pmb0)
    obtain ⟨hO33, e33⟩ := hO32.drop1
    rw [← Option.some.inj h]
    exact ⟨a39, m39, c39, S39a, rfl, hm39, hS39a, hO33, (e2.trans (e6.trans (e15.trans (e21.trans (e29.trans (e31.trans (e30.trans (e32.trans e33))))))))⟩
  replace h := iF (nt hb16) h
  refine c_condT (congrArg Value.bool (nnf hb16)) ?_
  refine c_seq ?_
  refine c_reg ?_
  refine sv (r_move (v := .slice _ _ _) rfl) ?_
  refine sv (r_assign (v := .slice _ _ _) rfl) ?_
  refine sv (r_assign (v := .int _ _) rfl) ?_
  refine s_nil ?_
  refine c_next ?_
  refine c_ret ?_
  refine r_block ?_
  refine r_then ?_
  refine e_2 (v := .slice _ _ _) (v' := .int _ _) Try.results68 rfl rfl ?_
  obtain ⟨hO34, e34⟩ := hO15.permE (pmbA pmb0)
  obtain ⟨hO35, e35⟩ := hO34.drop1
  rw [← Option.some.inj h]
  exact ⟨a8_0, m8_0, c8_0, S8_0, rfl, hm8_0, hS8_0, hO35, (e2.trans (e6.trans (e15.trans (e34.trans e35))))⟩
theorem c_claim_State_issue (x0 : T_claim_State) (x1 : T_claim_Op) (aP0 : Option Addr) (mP0 cP0 : Nat) (aP1 : Option Addr) (mP1 cP1 : Nat)  (r : (T_claim_State × Int)) (h : F_claim_State_issue x0 x1 = some r) (w : World) (L : Hp) (hm0p : x0.Roster.length = mP0) (hc0p : mP0 ≤ cP0) (hR0p : Rd w L aP0 (fl e_roster_Device x0.Roster)) (hm1p : x0.Tickets.length = mP1) (hc1p : mP1 ≤ cP1) (hR1p : Rd w L aP1 (fl e_ticket_Ticket x0.Tickets)) (hO : Own w L) :
    Calls Try.prog 47 #[(.agg #[(.int .i64 x0.Epoch), (.int .i64 x0.Owner), (.int .i64 x0.Next), (.slice aP0 mP0 cP0), (.slice aP1 mP1 cP1)]), (.agg #[(.int .i64 x1.Kind), (.int .i64 x1.Device), (.int .i64 x1.Request), (.int .i64 x1.Ticket), (.int .i64 x1.For), (.int .i64 x1.Until), (.int .i64 x1.Now)])] w fun en w' => ∃ (ra0 : Option Addr) (rm0 rc0 : Nat) (ra1 : Option Addr) (rm1 rc1 : Nat), en = .returned (.tuple #[(.agg #[(.int .i64 r.1.Epoch), (.int .i64 r.1.Owner), (.int .i64 r.1.Next), (.slice ra0 rm0 rc0), (.slice ra1 rm1 rc1)]), (.int .i64 r.2)]) ∧ r.1.Roster.length = rm0 ∧ rm0 ≤ rc0 ∧ Rd w' L ra0 (fl e_roster_Device r.1.Roster) ∧ r.1.Tickets.length = rm1 ∧ rm1 ≤ rc1 ∧ Rd w' L ra1 (fl e_ticket_Ticket r.1.Tickets) ∧ Own w' L ∧ Ext w L w' L := by
  unfold F_claim_State_issue at h
  refine enter (n := 54) [(.agg #[(.int .i64 x0.Epoch), (.int .i64 x0.Owner), (.int .i64 x0.Next), (.slice aP0 mP0 cP0), (.slice aP1 mP1 cP1)]), (.agg #[(.int .i64 x1.Kind), (.int .i64 x1.Device), (.int .i64 x1.Request), (.int .i64 x1.Ticket), (.int .i64 x1.For), (.int .i64 x1.Until), (.int .i64 x1.Now)])] Try.func47 rfl rfl (Nat.le_of_ble_eq_true rfl) ?_
  refine c_seq ?_
  refine c_reg ?_
  refine s_box (v := (.agg #[(.int .i64 x0.Epoch), (.int .i64 x0.Owner), (.int .i64 x0.Next), (.slice aP0 mP0 cP0), (.slice aP1 mP1 cP1)])) rfl hO ?_
  intro b2 w4 hz2 hl2 hO4 e4
  have hO5 : Own w4 ((b2, .cells #[(.int .i64 x0.Epoch), (.int .i64 x0.Owner), (.int .i64 x0.Next), (.slice aP0 mP0 cP0), (.slice aP1 mP1 cP1)] 27 (0, 0)) :: L) := hO4
  refine s_box (v := (.agg #[(.int .i64 x1.Kind), (.int .i64 x1.Device), (.int .i64 x1.Request), (.int .i64 x1.Ticket), (.int .i64 x1.For), (.int .i64 x1.Until), (.int .i64 x1.Now)])) rfl hO5 ?_
  intro b3 w7 hz3 hl3 hO7 e7
  have hO8 : Own w7 ((b3, .cells #[(.int .i64 x1.Kind), (.int .i64 x1.Device), (.int .i64 x1.Request), (.int .i64 x1.Ticket), (.int .i64 x1.For), (.int .i64 x1.Until), (.int .i64 x1.Now)] 37 (0, 0)) :: ((b2, .cells #[(.int .i64 x0.Epoch), (.int .i64 x0.Owner), (.int .i64 x0.Next), (.slice aP0 mP0 cP0), (.slice aP1 mP1 cP1)] 27 (0, 0)) :: L)) := hO7
  refine s_alloc I27 hO8 ?_
  intro b4 w10 hz4 hl4 hO10 e10
  have hO11 : Own w10 ((b4, .cells #[(.int .i64 0), (.int .i64 0), (.int .i64 0), (.slice none 0 0), (.slice none 0 0)] 27 (0, 0)) :: ((b3, .cells #[(.int .i64 x1.Kind), (.int .i64 x1.Device), (.int .i64 x1.Request), (.int .i64 x1.Ticket), (.int .i64 x1.For), (.int .i64 x1.Until), (.int .i64 x1.Now)] 37 (0, 0)) :: ((b2, .cells #[(.int .i64 x0.Epoch), (.int .i64 x0.Owner), (.int .i64 x0.Next), (.slice aP0 mP0 cP0), (.slice aP1 mP1 cP1)] 27 (0, 0)) :: L))) := hO10
  refine sv (r_assign (v := .int _ _) rfl) ?_
  refine s_nil ?_
  refine c_next ?_
  refine c_seq ?_
  have hR0p := (hR0p.ext (e4.trans (e7.trans e10)))
  have hR1p := (hR1p.ext (e4.trans (e7.trans e10)))
  obtain ⟨oc14, G14, hG14, h, hr14⟩ := bindG h
  refine c_cutL hO11 (fun Lc f0 g w' => ∃ (xc1_t13 : Bool), (G14 xc1_t13 = some r) ∧ g 2 = (.pointer (some ⟨b2, 0, none⟩)) ∧ g 3 = (.pointer (some ⟨b3, 0, none⟩)) ∧ g 4 = (.pointer (some ⟨b4, 0, none⟩)) ∧ g 13 = (.bool xc1_t13) ∧ Own w' ((b2, .cells #[(.int .i64 x0.Epoch), (.int .i64 x0.Owner), (.int .i64 x0.Next), (.slice aP0 mP0 cP0), (.slice aP1 mP1 cP1)] 27 (0, 0)) :: ((b3, .cells #[(.int .i64 x1.Kind), (.int .i64 x1.Device), (.int .i64 x1.Request), (.int .i64 x1.Ticket), (.int .i64 x1.For), (.int .i64 x1.Until), (.int .i64 x1.Now)] 37 (0, 0)) :: ((b4, .cells #[(.int .i64 0), (.int .i64 0), (.int .i64 0), (.slice none 0 0), (.slice none 0 0)] 27 (0, 0)) :: L))) ∧ Ext w10 Lc w' ((b2, .cells #[(.int .i64 x0.Epoch), (.int .i64 x0.Owner), (.int .i64 x0.Next), (.slice aP0 mP0 cP0), (.slice aP1 mP1 cP1)] 27 (0, 0)) :: ((b3, .cells #[(.int .i64 x1.Kind), (.int .i64 x1.Device), (.int .i64 x1.Request), (.int .i64 x1.Ticket), (.int .i64 x1.For), (.int .i64 x1.Until), (.int .i64 x1.Now)] 37 (0, 0)) :: ((b4, .cells #[(.int .i64 0), (.int .i64 0), (.int .i64 0), (.slice none 0 0), (.slice none 0 0)] 27 (0, 0)) :: L)))) ?_ ?_
  · skip
    refine c_reg ?_
    refine sv (r_fieldAddr Try.underlying27 rfl I3 (by decide) rfl) ?_
    refine s_load1 (v := .int _ _) Try.underlying3 rfl rfl (cellB (hO11.get (i := 2) rfl) rfl rfl) ?_
    refine sv (r_fieldAddr Try.underlying37 rfl I3 (by decide) rfl) ?_
    refine s_load1 (v := .int _ _) Try.underlying3 rfl rfl (cellB (hO11.get (i := 1) rfl) rfl rfl) ?_
    refine c_neq rfl rfl (fun h13 => ?_) (fun h13 => ?_)
    · replace h := iT h13 h
      refine s_nil ?_
      refine c_next ?_
      rw [← Option.some.inj h] at hr14
      obtain ⟨hO15, e15⟩ := hO11.permE (pmbC pmb0)
      obtain ⟨hO16, e16⟩ := hO15.permE (pmbC (pmbC pmb0))
      exact ⟨_, rfl, true, hr14, rfl, rfl, rfl, rfl, hO16, (e15.trans e16)⟩
    replace h := iF (Classical.not_not.2 h13) h
    refine s_nil ?_
    refine c_next ?_
    rw [← Option.some.inj h] at hr14
    obtain ⟨hO17, e17⟩ := hO11.permE (pmbC pmb0)
    obtain ⟨hO18, e18⟩ := hO17.permE (pmbC (pmbC pmb0))
    exact ⟨_, rfl, false, hr14, rfl, rfl, rfl, rfl, hO18, (e17.trans e18)⟩
  intro gg14 w14 hI14
  clear h hr14
  obtain ⟨xc1_t13, h, hsc1_2, hsc1_3, hsc1_4, hsc1_13, hO14, e14⟩ := hI14
  replace h := hG_ hG14 h; clear hG14
  obtain ⟨qq14, rfl⟩ := fr4 hsc1_2 hsc1_3 hsc1_4 hsc1_13
  clear hsc1_2 hsc1_3 hsc1_4 hsc1_13
  rcases Bool.eq_false_or_eq_true (xc1_t13) with hb19 | hb19
  · replace h := iT hb19 h
    refine c_condT (congrArg Value.bool hb19) ?_
    refine c_seq ?_
    refine c_reg ?_
    refine s_loadAll Try.underlying27 rfl I27 rfl (hO14.get (i := 0) rfl) rfl rfl ?_
    refine s_storeN (vs := #[(.int .i64 x0.Epoch), (.int .i64 x0.Owner), (.int .i64 x0.Next), (.slice aP0 mP0 cP0), (.slice aP1 mP1 cP1)]) I27 rfl rfl rfl hO14 (i := 2) rfl (Nat.le_of_ble_eq_true rfl) (List.all_eq_true.1 rfl) ?_
    intro w21 hO21 e21
    have hO22 : Own w21 ((b2, .cells #[(.int .i64 x0.Epoch), (.int .i64 x0.Owner), (.int .i64 x0.Next), (.slice aP0 mP0 cP0), (.slice aP1 mP1 cP1)] 27 (0, 0)) :: ((b3, .cells #[(.int .i64 x1.Kind), (.int .i64 x1.Device), (.int .i64 x1.Request), (.int .i64 x1.Ticket), (.int .i64 x1.For), (.int .i64 x1.Until), (.int .i64 x1.Now)] 37 (0, 0)) :: ((b4, .cells #[(.int .i64 x0.Epoch), (.int .i64 x0.Owner), (.int .i64 x0.Next), (.slice aP0 mP0 cP0), (.slice aP1 mP1 cP1)] 27 (0, 0)) :: L))) := hO21
    refine sv (r_assign (v := .int _ _) rfl) ?_
    refine s_nil ?_
    refine c_next ?_
    refine c_ret ?_
    refine r_then ?_
    refine e_r2 Try.results47 (rv_agg Try.underlying27 rfl I27 rfl (hO22.get (i := 2) rfl) rfl rfl) (rv_tmp (v := .int _ _) rfl) ?_
    obtain ⟨hO24, e24⟩ := hO22.drop1
    obtain ⟨hO25, e25⟩ := hO24.drop1
    obtain ⟨hO26, e26⟩ := hO25.drop1
    rw [← Option.some.inj h]
    exact ⟨aP0, mP0, cP0, aP1, mP1, cP1, rfl, hm0p, hc0p, (hR0p.ext (e14.trans (e21.trans (e24.trans (e25.trans e26))))), hm1p, hc1p, (hR1p.ext (e14.trans (e21.trans (e24.trans (e25.trans e26))))), hO26, (e4.trans (e7.trans (e10.trans (e14.trans (e21.trans (e24.trans (e25.trans e26)))))))⟩
  replace h := iF (nt hb19) h
  refine c_condF (congrArg Value.bool hb19) ?_
  refine c_skip ?_
  refine c_next ?_
  refine c_seq ?_
  refine c_seq ?_
  refine c_reg ?_
  refine s_loadAll Try.underlying27 rfl I27 rfl (hO14.get (i := 0) rfl) rfl rfl ?_
  refine sv (r_fieldAddr Try.underlying37 rfl I3 (by decide) rfl) ?_
  refine s_load1 (v := .int _ _) Try.underlying3 rfl rfl (cellB (hO14.get (i := 1) rfl) rfl rfl) ?_
  obtain ⟨y18, hy18, h⟩ := bindE h
  refine s_call cf67 rfl (c_claim_State_whom x0 x1.For aP0 mP0 cP0 aP1 mP1 cP1 _ hy18 _ _ hm0p hc0p (hR0p.ext e14) hm1p hc1p (hR1p.ext e14) hO14) ?_
  rintro er18 w31 ⟨rfl, hO31, e31⟩
  refine ⟨_, rfl, ?_⟩
  refine sv (r_assign (v := .int _ _) rfl) ?_
  refine s_nil ?_
  refine c_next ?_
  have hR0p := (hR0p.ext (e14.trans e31))
  have hR1p := (hR1p.ext (e14.trans e31))
  obtain ⟨oc32, G32, hG32, h, hr32⟩ := bindG h
  refine c_cutL hO31 (fun Lc f0 g w' => ∃ (xc2_t20 : Bool), (G32 xc2_t20 = some r) ∧ g 2 = (.pointer (some ⟨b2, 0, none⟩)) ∧ g 3 = (.pointer (some ⟨b3, 0, none⟩)) ∧ g 4 = (.pointer (some ⟨b4, 0, none⟩)) ∧ g 6 = (.int .i64 y18) ∧ g 20 = (.bool xc2_t20) ∧ Own w' ((b2, .cells #[(.int .i64 x0.Epoch), (.int .i64 x0.Owner), (.int .i64 x0.Next), (.slice aP0 mP0 cP0), (.slice aP1 mP1 cP1)] 27 (0, 0)) :: ((b3, .cells #[(.int .i64 x1.Kind), (.int .i64 x1.Device), (.int .i64 x1.Request), (.int .i64 x1.Ticket), (.int .i64 x1.For), (.int .i64 x1.Until), (.int .i64 x1.Now)] 37 (0, 0)) :: ((b4, .cells #[(.int .i64 0), (.int .i64 0), (.int .i64 0), (.slice none 0 0), (.slice none 0 0)] 27 (0, 0)) :: L))) ∧ Ext w31 Lc w' ((b2, .cells #[(.int .i64 x0.Epoch), (.int .i64 x0.Owner), (.int .i64 x0.Next), (.slice aP0 mP0 cP0), (.slice aP1 mP1 cP1)] 27 (0, 0)) :: ((b3, .cells #[(.int .i64 x1.Kind), (.int .i64 x1.Device), (.int .i64 x1.Request), (.int .i64 x1.Ticket), (.int .i64 x1.For), (.int .i64 x1.Until), (.int .i64 x1.Now)] 37 (0, 0)) :: ((b4, .cells #[(.int .i64 0), (.int .i64 0), (.int .i64 0), (.slice none 0 0), (.slice none 0 0)] 27 (0, 0)) :: L)))) ?_ ?_
  · skip
    refine c_reg ?_
    refine sv (r_move (v := .int _ _) rfl) ?_
    refine c_neq rfl rfl (fun h20 => ?_) (fun h20 => ?_)
    · replace h := iT h20 h
      refine s_nil ?_
      refine c_next ?_
      rw [← Option.some.inj h] at hr32
      exact ⟨_, rfl, true, hr32, rfl, rfl, rfl, rfl, rfl, hO31, (Ext.refl _ _)⟩
    replace h := iF (Classical.not_not.2 h20) h
    refine s_nil ?_
    refine c_next ?_
    rw [← Option.some.inj h] at hr32
    exact ⟨_, rfl, false, hr32, rfl, rfl, rfl, rfl, rfl, hO31, (Ext.refl _ _)⟩
  intro gg32 w32 hI32
  clear h hr32
  obtain ⟨xc2_t20, h, hsc2_2, hsc2_3, hsc2_4, hsc2_6, hsc2_20, hO32, e32⟩ := hI32
  replace h := hG_ hG32 h; clear hG32
  obtain ⟨qq32, rfl⟩ := fr5 hsc2_2 hsc2_3 hsc2_4 hsc2_6 hsc2_20
  clear hsc2_2 hsc2_3 hsc2_4 hsc2_6 hsc2_20
  rcases Bool.eq_false_or_eq_true (xc2_t20) with hb33 | hb33
  · replace h := iT hb33 h
    refine c_condT (congrArg Value.bool hb33) ?_
    refine c_seq ?_
    refine c_reg ?_
    refine s_loadAll Try.underlying27 rfl I27 rfl (hO32.get (i := 0) rfl) rfl rfl ?_
    refine sv (r_move (v := .int _ _) rfl) ?_
    refine s_storeN (vs := #[(.int .i64 x0.Epoch), (.int .i64 x0.Owner), (.int .i64 x0.Next), (.slice aP0 mP0 cP0), (.slice aP1 mP1 cP1)]) I27 rfl rfl rfl hO32 (i := 2) rfl (Nat.le_of_ble_eq_true rfl) (List.all_eq_true.1 rfl) ?_
    intro w35 hO35 e35
    have hO36 : Own w35 ((b2, .cells #[(.int .i64 x0.Epoch), (.int .i64 x0.Owner), (.int .i64 x0.Next), (.slice aP0 mP0 cP0), (.slice aP1 mP1 cP1)] 27 (0, 0)) :: ((b3, .cells #[(.int .i64 x1.Kind), (.int .i64 x1.Device), (.int .i64 x1.Request), (.int .i64 x1.Ticket), (.int .i64 x1.For), (.int .i64 x1.Until), (.int .i64 x1.Now)] 37 (0, 0)) :: ((b4, .cells #[(.int .i64 x0.Epoch), (.int .i64 x0.Owner), (.int .i64 x0.Next), (.slice aP0 mP0 cP0), (.slice aP1 mP1 cP1)] 27 (0, 0)) :: L))) := hO35
    refine sv (r_assign (v := .int _ _) rfl) ?_
    refine s_nil ?_
    refine c_next ?_
    refine c_ret ?_
    refine r_then ?_
    refine e_r2 Try.results47 (rv_agg Try.underlying27 rfl I27 rfl (hO36.get (i := 2) rfl) rfl rfl) (rv_tmp (v := .int _ _) rfl) ?_
    obtain ⟨hO38, e38⟩ := hO36.drop1
    obtain ⟨hO39, e39⟩ := hO38.drop1
    obtain ⟨hO40, e40⟩ := hO39.drop1
    rw [← Option.some.inj h]
    exact ⟨aP0, mP0, cP0, aP1, mP1, cP1, rfl, hm0p, hc0p, (hR0p.ext (e32.trans (e35.trans (e38.trans (e39.trans e40))))), hm1p, hc1p, (hR1p.ext (e32.trans (e35.trans (e38.trans (e39.trans e40))))), hO40, (e4.trans (e7.trans (e10.trans (e14.trans (e31.trans (e32.trans (e35.trans (e38.trans (e39.trans e40)))))))))⟩
  replace h := iF (nt hb33) h
  refine c_condF (congrArg Value.bool hb33) ?_
  refine c_skip ?_
  refine c_next ?_
  refine c_seq ?_
  have hR0p := (hR0p.ext e32)
  have hR1p := (hR1p.ext e32)
  obtain ⟨oc42, G42, hG42, h, hr42⟩ := bindG h
  refine c_cutL hO32 (fun Lc f0 g w' => ∃ (xc3_t25 : Bool), (G42 xc3_t25 = some r) ∧ g 2 = (.pointer (some ⟨b2, 0, none⟩)) ∧ g 3 = (.pointer (some ⟨b3, 0, none⟩)) ∧ g 4 = (.pointer (some ⟨b4, 0, none⟩)) ∧ g 25 = (.bool xc3_t25) ∧ Own w' ((b2, .cells #[(.int .i64 x0.Epoch), (.int .i64 x0.Owner), (.int .i64 x0.Next), (.slice aP0 mP0 cP0), (.slice aP1 mP1 cP1)] 27 (0, 0)) :: ((b3, .cells #[(.int .i64 x1.Kind), (.int .i64 x1.Device), (.int .i64 x1.Request), (.int .i64 x1.Ticket), (.int .i64 x1.For), (.int .i64 x1.Until), (.int .i64 x1.Now)] 37 (0, 0)) :: ((b4, .cells #[(.int .i64 0), (.int .i64 0), (.int .i64 0), (.slice none 0 0), (.slice none 0 0)] 27 (0, 0)) :: L))) ∧ Ext w32 Lc w' ((b2, .cells #[(.int .i64 x0.Epoch), (.int .i64 x0.Owner), (.int .i64 x0.Next), (.slice aP0 mP0 cP0), (.slice aP1 mP1 cP1)] 27 (0, 0)) :: ((b3, .cells #[(.int .i64 x1.Kind), (.int .i64 x1.Device), (.int .i64 x1.Request), (.int .i64 x1.Ticket), (.int .i64 x1.For), (.int .i64 x1.Until), (.int .i64 x1.Now)] 37 (0, 0)) :: ((b4, .cells #[(.int .i64 0), (.int .i64 0), (.int .i64 0), (.slice none 0 0), (.slice none 0 0)] 27 (0, 0)) :: L)))) ?_ ?_
  · skip
    refine c_reg ?_
    refine sv (r_fieldAddr Try.underlying27 rfl I3 (by decide) rfl) ?_
    refine s_load1 (v := .int _ _) Try.underlying3 rfl rfl (cellB (hO32.get (i := 0) rfl) rfl rfl) ?_
    refine c_geq rfl rfl (fun h25 => ?_) (fun h25 => ?_)
    · replace h := iT h25 h
      refine s_nil ?_
      refine c_next ?_
      rw [← Option.some.inj h] at hr42
      exact ⟨_, rfl, true, hr42, rfl, rfl, rfl, rfl, hO32, (Ext.refl _ _)⟩
    replace h := iF (Int.not_le.2 h25) h
    refine s_nil ?_
    refine c_next ?_
    rw [← Option.some.inj h] at hr42
    exact ⟨_, rfl, false, hr42, rfl, rfl, rfl, rfl, hO32, (Ext.refl _ _)⟩
  intro gg42 w42 hI42
  clear h hr42
  obtain ⟨xc3_t25, h, hsc3_2, hsc3_3, hsc3_4, hsc3_25, hO42, e42⟩ := hI42
  replace h := hG_ hG42 h; clear hG42
  obtain ⟨qq42, rfl⟩ := fr4 hsc3_2 hsc3_3 hsc3_4 hsc3_25
  clear hsc3_2 hsc3_3 hsc3_4 hsc3_25
  rcases Bool.eq_false_or_eq_true (xc3_t25) with hb43 | hb43
  · replace h := iT hb43 h
    refine c_condT (congrArg Value.bool hb43) ?_
    refine c_seq ?_
    refine c_reg ?_
    refine s_loadAll Try.underlying27 rfl I27 rfl (hO42.get (i := 0) rfl) rfl rfl ?_
    refine s_storeN (vs := #[(.int .i64 x0.Epoch), (.int .i64 x0.Owner), (.int .i64 x0.Next), (.slice aP0 mP0 cP0), (.slice aP1 mP1 cP1)]) I27 rfl rfl rfl hO42 (i := 2) rfl (Nat.le_of_ble_eq_true rfl) (List.all_eq_true.1 rfl) ?_
    intro w45 hO45 e45
    have hO46 : Own w45 ((b2, .cells #[(.int .i64 x0.Epoch), (.int .i64 x0.Owner), (.int .i64 x0.Next), (.slice aP0 mP0 cP0), (.slice aP1 mP1 cP1)] 27 (0, 0)) :: ((b3, .cells #[(.int .i64 x1.Kind), (.int .i64 x1.Device), (.int .i64 x1.Request), (.int .i64 x1.Ticket), (.int .i64 x1.For), (.int .i64 x1.Until), (.int .i64 x1.Now)] 37 (0, 0)) :: ((b4, .cells #[(.int .i64 x0.Epoch), (.int .i64 x0.Owner), (.int .i64 x0.Next), (.slice aP0 mP0 cP0), (.slice aP1 mP1 cP1)] 27 (0, 0)) :: L))) := hO45
    refine sv (r_assign (v := .int _ _) rfl) ?_
    refine s_nil ?_
    refine c_next ?_
    refine c_ret ?_
    refine r_then ?_
    refine e_r2 Try.results47 (rv_agg Try.underlying27 rfl I27 rfl (hO46.get (i := 2) rfl) rfl rfl) (rv_tmp (v := .int _ _) rfl) ?_
    obtain ⟨hO48, e48⟩ := hO46.drop1
    obtain ⟨hO49, e49⟩ := hO48.drop1
    obtain ⟨hO50, e50⟩ := hO49.drop1
    rw [← Option.some.inj h]
    exact ⟨aP0, mP0, cP0, aP1, mP1, cP1, rfl, hm0p, hc0p, (hR0p.ext (e42.trans (e45.trans (e48.trans (e49.trans e50))))), hm1p, hc1p, (hR1p.ext (e42.trans (e45.trans (e48.trans (e49.trans e50))))), hO50, (e4.trans (e7.trans (e10.trans (e14.trans (e31.trans (e32.trans (e42.trans (e45.trans (e48.trans (e49.trans e50))))))))))⟩
  replace h := iF (nt hb43) h
  refine c_condF (congrArg Value.bool hb43) ?_
  refine c_skip ?_
  refine c_next ?_
  refine c_seq ?_
  have hR0p := (hR0p.ext e42)
  have hR1p := (hR1p.ext e42)
  refine d_startL hO42 (hO42.perm (pmbC (pmbC pmb0))).t 17 (by kernel_rfl) (pk_then pk_body) ?_
  intro hP59 wd59 hK59 hO58 e58
  refine dT (i := 0) (listed' := #[I_,O_,O_,O_,O_,O_,O_,O_,O_,O_,O_,O_,O_,O_,O_,O_,O_,O_]) rfl hP59 hK59 (fun wS hS => (r_fieldAddr Try.underlying27 rfl I25 (by decide) rfl)) ?_
  refine dT (i := 1) (listed' := #[I_,I_,O_,O_,O_,O_,O_,O_,O_,O_,O_,O_,O_,O_,O_,O_,O_,O_]) rfl hP59 hK59 (fun wS hS => (r_load1 (v := .slice _ _ _) Try.underlying25 rfl rfl (cellB (hS.own.get (i := 0) rfl) rfl rfl))) ?_
  refine dT (i := 2) (listed' := #[I_,I_,I_,O_,O_,O_,O_,O_,O_,O_,O_,O_,O_,O_,O_,O_,O_,O_]) rfl hP59 hK59 (fun wS hS => (r_fieldAddr Try.underlying37 rfl I3 (by decide) rfl)) ?_
  refine dT (i := 3) (listed' := #[I_,I_,I_,I_,O_,O_,O_,O_,O_,O_,O_,O_,O_,O_,O_,O_,O_,O_]) rfl hP59 hK59 (fun wS hS => (r_load1 (v := .int _ _) Try.underlying3 rfl rfl (cellB (hS.own.get (i := 1) rfl) rfl rfl))) ?_
  refine dT (i := 5) (listed' := #[I_,I_,I_,I_,O_,I_,O_,O_,O_,O_,O_,O_,O_,O_,O_,O_,O_,O_]) rfl hP59 hK59 (fun wS hS => (r_fieldAddr Try.underlying27 rfl I3 (by decide) rfl)) ?_
  refine dT (i := 6) (listed' := #[I_,I_,I_,I_,O_,I_,I_,O_,O_,O_,O_,O_,O_,O_,O_,O_,O_,O_]) rfl hP59 hK59 (fun wS hS => (r_load1 (v := .int _ _) Try.underlying3 rfl rfl (cellB (hS.own.get (i := 0) rfl) rfl rfl))) ?_
  refine dT (i := 7) (listed' := #[I_,I_,I_,I_,O_,I_,I_,I_,O_,O_,O_,O_,O_,O_,O_,O_,O_,O_]) rfl hP59 hK59 (fun wS hS => (r_fieldAddr Try.underlying37 rfl I3 (by decide) rfl)) ?_
  refine dT (i := 8) (listed' := #[I_,I_,I_,I_,O_,I_,I_,I_,I_,O_,O_,O_,O_,O_,O_,O_,O_,O_]) rfl hP59 hK59 (fun wS hS => (r_load1 (v := .int _ _) Try.underlying3 rfl rfl (cellB (hS.own.get (i := 1) rfl) rfl rfl))) ?_
  refine dT (i := 9) (listed' := #[I_,I_,I_,I_,O_,I_,I_,I_,I_,I_,O_,O_,O_,O_,O_,O_,O_,O_]) rfl hP59 hK59 (fun wS hS => (r_fieldAddr Try.underlying37 rfl I3 (by decide) rfl)) ?_
  refine dT (i := 10) (listed' := #[I_,I_,I_,I_,O_,I_,I_,I_,I_,I_,I_,O_,O_,O_,O_,O_,O_,O_]) rfl hP59 hK59 (fun wS hS => (r_load1 (v := .int _ _) Try.underlying3 rfl rfl (cellB (hS.own.get (i := 1) rfl) rfl rfl))) ?_
  refine dT (i := 11) (listed' := #[I_,I_,I_,I_,O_,I_,I_,I_,I_,I_,I_,I_,O_,O_,O_,O_,O_,O_]) rfl hP59 hK59 (fun wS hS => (r_build (vs := [(0, (.int .i64 x0.Next)), (1, (.int .i64 x1.For)), (2, (.int .i64 x1.Until))]) (cells := #[(.int .i64 x0.Next), (.int .i64 x1.For), (.int .i64 x1.Until)]) I59 pl59 rfl (by kernel_rfl))) ?_
  refine d1 (i := 4) (listed' := #[I_,I_,I_,I_,I_,I_,I_,I_,I_,I_,I_,I_,O_,O_,O_,O_,O_,O_]) ?_
  obtain ⟨y32, hy32, h⟩ := bindE h
  refine s_call cf69 rfl (c_ticket_Live x0.Tickets x1.Now aP1 mP1 cP1 _ hy32 _ _ hm1p hc1p (hR1p.ext e58) hO58) ?_
  rintro er32 w60 ⟨a32_0, m32_0, c32_0, S32_0, rfl, hm32_0, hS32_0, hO60, e60⟩
  refine ⟨_, rfl, ?_⟩
  have hK61 : Kept w42 _ _ w60 := Kept.to (e58.trans e60) (hO60.r.perm (pmbC (pmbC pmb0))).t
  refine d_back hK61 ?_
  refine d1 (i := 12) (listed' := #[I_,I_,I_,I_,I_,I_,I_,I_,I_,I_,I_,I_,I_,O_,O_,O_,O_,O_]) ?_
  have hR62 := (hS32_0.drop hO60).2.2
  obtain ⟨hO62, e62⟩ := hO60.dropS
  obtain ⟨y40, hy40, h⟩ := bindE h
  refine s_call cf68 rfl (c_ticket_Issue y32 ({ No := x0.Next, For := x1.For, Until := x1.Until } : T_ticket_Ticket) a32_0 m32_0 c32_0 _ hy40 _ _ hm32_0 hS32_0.le.1 hR62 hO62) ?_
  rintro er40 w63 ⟨a40_0, m40_0, c40_0, S40_0, rfl, hm40_0, hS40_0, hO63, e63⟩
  refine ⟨_, rfl, ?_⟩
  have hK64 : Kept w42 _ _ w63 := Kept.to (e58.trans (e60.trans (e62.trans e63))) (hO63.r.perm (pmbC (pmbC pmb0))).t
  refine d_back hK64 ?_
  refine dT (i := 13) (listed' := #[I_,I_,I_,I_,I_,I_,I_,I_,I_,I_,I_,I_,I_,I_,O_,O_,O_,O_]) rfl hP59 hK64 (fun wS hS => (r_move (v := .tuple _) rfl)) ?_
  refine dT (i := 14) (listed' := #[I_,I_,I_,I_,I_,I_,I_,I_,I_,I_,I_,I_,I_,I_,I_,O_,O_,O_]) rfl hP59 hK64 (fun wS hS => (r_extract rfl rfl)) ?_
  refine dT (i := 15) (listed' := #[I_,I_,I_,I_,I_,I_,I_,I_,I_,I_,I_,I_,I_,I_,I_,I_,O_,O_]) rfl hP59 hK64 (fun wS hS => (r_extract rfl rfl)) ?_
  refine dT (i := 16) (listed' := #[I_,I_,I_,I_,I_,I_,I_,I_,I_,I_,I_,I_,I_,I_,I_,I_,I_,O_]) rfl hP59 hK64 (fun wS hS => (r_assign (v := .slice _ _ _) rfl)) ?_
  refine d1 (i := 17) (listed' := #[I_,I_,I_,I_,I_,I_,I_,I_,I_,I_,I_,I_,I_,I_,I_,I_,I_,I_]) ?_
  refine sv (r_assign (v := .int _ _) rfl) ?_
  refine d_tail rfl ?_
  refine d_done (by kernel_rfl) ?_
  refine c_next ?_
  refine c_seq ?_
  refine c_seq ?_
  refine c_reg ?_
  refine sv (r_move (v := .int _ _) rfl) ?_
  refine c_neq rfl rfl (fun h44 => ?_) (fun h44 => ?_)
  · replace h := iT h44 h
    refine s_nil ?_
    refine c_next ?_
    refine c_condT rfl ?_
    refine c_seq ?_
    refine c_reg ?_
    refine s_loadAll Try.underlying27 rfl I27 rfl ((hO63.perm (pmbA pmb0)).get (i := 0) rfl) rfl rfl ?_
    refine sv (r_move (v := .int _ _) rfl) ?_
    obtain ⟨hO70, e70⟩ := hO63.permE (pmbA (pmbC (pmbC pmb0)))
    refine s_storeN (vs := #[(.int .i64 x0.Epoch), (.int .i64 x0.Owner), (.int .i64 x0.Next), (.slice aP0 mP0 cP0), (.slice aP1 mP1 cP1)]) I27 rfl rfl rfl hO70 (i := 0) rfl (Nat.le_of_ble_eq_true rfl) (List.all_eq_true.1 rfl) ?_
    intro w69 hO69 e69
    have hO71 : Own w69 ((b4, .cells #[(.int .i64 x0.Epoch), (.int .i64 x0.Owner), (.int .i64 x0.Next), (.slice aP0 mP0 cP0), (.slice aP1 mP1 cP1)] 27 (0, 0)) :: (S40_0 ++ ((b2, .cells #[(.int .i64 x0.Epoch), (.int .i64 x0.Owner), (.int .i64 x0.Next), (.slice aP0 mP0 cP0), (.slice aP1 mP1 cP1)] 27 (0, 0)) :: ((b3, .cells #[(.int .i64 x1.Kind), (.int .i64 x1.Device), (.int .i64 x1.Request), (.int .i64 x1.Ticket), (.int .i64 x1.For), (.int .i64 x1.Until), (.int .i64 x1.Now)] 37 (0, 0)) :: L)))) := hO69
    refine sv (r_assign (v := .int _ _) rfl) ?_
    refine s_nil ?_
    refine c_next ?_
    refine c_ret ?_
    refine r_then ?_
    refine e_r2 Try.results47 (rv_agg Try.underlying27 rfl I27 rfl (hO71.get (i := 0) rfl) rfl rfl) (rv_tmp (v := .int _ _) rfl) ?_
    obtain ⟨hO73, e73⟩ := hO71.drop1
    have hR74 := (hS40_0.drop hO73).2.2
    obtain ⟨hO74, e74⟩ := hO73.dropS
    obtain ⟨hO75, e75⟩ := hO74.drop1
    obtain ⟨hO76, e76⟩ := hO75.drop1
    rw [← Option.some.inj h]
    exact ⟨aP0, mP0, cP0, aP1, mP1, cP1, rfl, hm0p, hc0p, (hR0p.ext (e58.trans (e60.trans (e62.trans (e63.trans (e70.trans (e69.trans (e73.trans (e74.trans (e75.trans e76)))))))))), hm1p, hc1p, (hR1p.ext (e58.trans (e60.trans (e62.trans (e63.trans (e70.trans (e69.trans (e73.trans (e74.trans (e75.trans e76)))))))))), hO76, (e4.trans (e7.trans (e10.trans (e14.trans (e31.trans (e32.trans (e42.trans (e58.trans (e60.trans (e62.trans (e63.trans (e70.trans (e69.trans (e73.trans (e74.trans (e75.trans e76))))))))))))))))⟩
  replace h := iF (Classical.not_not.2 h44) h
  refine s_nil ?_
  refine c_next ?_
  refine c_condF rfl ?_
  refine c_skip ?_
  refine c_next ?_
  refine c_seq ?_
  refine c_reg ?_
  refine sv (r_move (v := .slice _ _ _) rfl) ?_
  refine sv (r_fieldAddr Try.underlying27 rfl I25 (by decide) rfl) ?_
  obtain ⟨hO80, e80⟩ := hO63.permE (pmbA pmb0)
  refine s_store1 (v := (.slice a40_0 m40_0 c40_0)) (o := 4) I25 rfl rfl rfl hO80 (i := 0) rfl rfl rfl ?_
  intro w79 hO79 e79
  have hO81 : Own w79 ((b2, .cells #[(.int .i64 x0.Epoch), (.int .i64 x0.Owner), (.int .i64 x0.Next), (.slice aP0 mP0 cP0), (.slice a40_0 m40_0 c40_0)] 27 (0, 0)) :: (S40_0 ++ ((b3, .cells #[(.int .i64 x1.Kind), (.int .i64 x1.Device), (.int .i64 x1.Request), (.int .i64 x1.Ticket), (.int .i64 x1.For), (.int .i64 x1.Until), (.int .i64 x1.Now)] 37 (0, 0)) :: ((b4, .cells #[(.int .i64 0), (.int .i64 0), (.int .i64 0), (.slice none 0 0), (.slice none 0 0)] 27 (0, 0)) :: L)))) := hO79
  refine s_nil ?_
  refine c_next ?_
  refine c_seq ?_
  refine c_reg ?_
  refine sv (r_fieldAddr Try.underlying27 rfl I3 (by decide) rfl) ?_
  refine s_load1 (v := .int _ _) Try.underlying3 rfl rfl (cellB (hO81.get (i := 0) rfl) rfl rfl) ?_
  refine sv (r_addI (a := x0.Next) (b := 1) rfl rfl) ?_
  refine sv (r_fieldAddr Try.underlying27 rfl I3 (by decide) rfl) ?_
  refine s_store1 (v := (.int .i64 ((w64 (x0.Next + 1))))) (o := 2) I3 rfl rfl rfl hO81 (i := 0) rfl rfl rfl ?_
  intro w83 hO83 e83
  have hO84 : Own w83 ((b2, .cells #[(.int .i64 x0.Epoch), (.int .i64 x0.Owner), (.int .i64 ((w64 (x0.Next + 1)))), (.slice aP0 mP0 cP0), (.slice a40_0 m40_0 c40_0)] 27 (0, 0)) :: (S40_0 ++ ((b3, .cells #[(.int .i64 x1.Kind), (.int .i64 x1.Device), (.int .i64 x1.Request), (.int .i64 x1.Ticket), (.int .i64 x1.For), (.int .i64 x1.Until), (.int .i64 x1.Now)] 37 (0, 0)) :: ((b4, .cells #[(.int .i64 0), (.int .i64 0), (.int .i64 0), (.slice none 0 0), (.slice none 0 0)] 27 (0, 0)) :: L)))) := hO83
  refine s_nil ?_
  refine c_next ?_
  refine c_seq ?_
  refine c_reg ?_
  refine s_loadAll Try.underlying27 rfl I27 rfl (hO84.get (i := 0) rfl) rfl rfl ?_
  obtain ⟨hO87, e87⟩ := hO84.permE (pmbC (pmbA (pmbC pmb0)))
  refine s_storeN (vs := #[(.int .i64 x0.Epoch), (.int .i64 x0.Owner), (.int .i64 ((w64 (x0.Next + 1)))), (.slice aP0 mP0 cP0), (.slice a40_0 m40_0 c40_0)]) I27 rfl rfl rfl hO87 (i := 0) rfl (Nat.le_of_ble_eq_true rfl) (List.all_eq_true.1 rfl) ?_
  intro w86 hO86 e86
  have hO88 : Own w86 ((b4, .cells #[(.int .i64 x0.Epoch), (.int .i64 x0.Owner), (.int .i64 ((w64 (x0.Next + 1)))), (.slice aP0 mP0 cP0), (.slice a40_0 m40_0 c40_0)] 27 (0, 0)) :: ((b2, .cells #[(.int .i64 x0.Epoch), (.int .i64 x0.Owner), (.int .i64 ((w64 (x0.Next + 1)))), (.slice aP0 mP0 cP0), (.slice a40_0 m40_0 c40_0)] 27 (0, 0)) :: (S40_0 ++ ((b3, .cells #[(.int .i64 x1.Kind), (.int .i64 x1.Device), (.int .i64 x1.Request), (.int .i64 x1.Ticket), (.int .i64 x1.For), (.int .i64 x1.Until), (.int .i64 x1.Now)] 37 (0, 0)) :: L)))) := hO86
  refine sv (r_assign (v := .int _ _) rfl) ?_
  refine s_nil ?_
  refine c_next ?_
  refine c_ret ?_
  refine e_r2 Try.results47 (rv_agg Try.underlying27 rfl I27 rfl (hO88.get (i := 0) rfl) rfl rfl) (rv_tmp (v := .int _ _) rfl) ?_
  obtain ⟨hO90, e90⟩ := hO88.permE (pmC (pmC pm0))
  have hR91 := (hS40_0.drop hO90).2.2
  obtain ⟨hO91, e91⟩ := hO90.dropS
  obtain ⟨hO92, e92⟩ := hO91.drop1
  obtain ⟨hO93, e93⟩ := hO92.drop1
  obtain ⟨hO94, e94⟩ := hO93.drop1
  rw [← Option.some.inj h]
  exact ⟨aP0, mP0, cP0, a40_0, m40_0, c40_0, rfl, hm0p, hc0p, (hR0p.ext (e58.trans (e60.trans (e62.trans (e63.trans (e80.trans (e79.trans (e83.trans (e87.trans (e86.trans (e90.trans (e91.trans (e92.trans (e93.trans e94)))))))))))))), hm40_0, hS40_0.le.1, (hR91.ext (e92.trans (e93.trans e94))), hO94, (e4.trans (e7.trans (e10.trans (e14.trans (e31.trans (e32.trans (e42.trans (e58.trans (e60.trans (e62.trans (e63.trans (e80.trans (e79.trans (e83.trans (e87.trans (e86.trans (e90.trans (e91.trans (e92.trans (e93.trans e94))))))))))))))))))))⟩
theorem c_ticket_Use_1 (x0 : T_ticket_Ticket) (k0 : Int) (pK0 : Addr)  (r : Bool) (h : F_ticket_Use_1 x0 k0 = some r) (w : World) (L : Hp) (hRK0 : Rd w L (some pK0) [(.int .i64 k0)]) (hO : Own w L) :
    Calls Try.prog 71 #[(.agg #[(.int .i64 x0.No), (.int .i64 x0.For), (.int .i64 x0.Until)]), (.pointer (some pK0))] w fun en w' => en = .returned (.bool r) ∧ Own w' L ∧ Ext w L w' L := by
  unfold F_ticket_Use_1 at h
  refine enter (n := 8) [(.agg #[(.int .i64 x0.No), (.int .i64 x0.For), (.int .i64 x0.Until)]), (.pointer (some pK0))] Try.func71 rfl rfl (Nat.le_of_ble_eq_true rfl) ?_
  refine c_seq ?_
  refine c_reg ?_
  refine s_box (v := (.agg #[(.int .i64 x0.No), (.int .i64 x0.For), (.int .i64 x0.Until)])) rfl hO ?_
  intro b2 w1 hz2 hl2 hO1 e1
  have hO2 : Own w1 ((b2, .cells #[(.int .i64 x0.No), (.int .i64 x0.For), (.int .i64 x0.Until)] 59 (0, 0)) :: L) := hO1
  refine sv (r_assign (v := .bool false) rfl) ?_
  refine s_nil ?_
  refine c_next ?_
  refine c_seq ?_
  refine c_reg ?_
  refine sv (r_fieldAddr Try.underlying59 rfl I3 (by decide) rfl) ?_
  refine s_load1 (v := .int _ _) Try.underlying3 rfl rfl (cellB (hO2.get (i := 0) rfl) rfl rfl) ?_
  refine s_load1 (v := .int _ _) Try.underlying3 rfl rfl (cellP (Rd.at1 (hRK0.ext e1)) 0 rfl) ?_
  refine c_eql rfl rfl (fun h7 => ?_) (fun h7 => ?_)
  · replace h := iT h7 h
    refine sv (r_assign (v := .bool true) rfl) ?_
    refine s_nil ?_
    refine c_next ?_
    refine c_ret ?_
    refine e_1 (v := .bool true) Try.results71 rfl ?_
    obtain ⟨hO4, e4⟩ := hO2.drop1
    rw [← Option.some.inj h]
    exact ⟨rfl, hO4, (e1.trans e4)⟩
  replace h := iF h7 h
  refine sv (r_assign (v := .bool false) rfl) ?_
  refine s_nil ?_
  refine c_next ?_
  refine c_ret ?_
  refine e_1 (v := .bool false) Try.results71 rfl ?_
  obtain ⟨hO5, e5⟩ := hO2.drop1
  rw [← Option.some.inj h]
  exact ⟨rfl, hO5, (e1.trans e5)⟩
theorem c_ticket_Use (x0 : (List T_ticket_Ticket)) (x1 : Int) (x2 : Int) (x3 : Int) (aP0 : Option Addr) (mP0 cP0 : Nat)  (r : Int) (h : F_ticket_Use x0 x1 x2 x3 = some r) (w : World) (L : Hp) (hm0p : x0.length = mP0) (hc0p : mP0 ≤ cP0) (hR0p : Rd w L aP0 (fl e_ticket_Ticket x0)) (hO : Own w L) :
    Calls Try.prog 48 #[(.slice aP0 mP0 cP0), (.int .i64 x1), (.int .i64 x2), (.int .i64 x3)] w fun en w' => en = .returned (.int .i64 r) ∧ Own w' L ∧ Ext w L w' L := by
  unfold F_ticket_Use at h
  refine enter (n := 41) [(.slice aP0 mP0 cP0), (.int .i64 x1), (.int .i64 x2), (.int .i64 x3)] Try.func48 rfl rfl (Nat.le_of_ble_eq_true rfl) ?_
  refine c_seq ?_
  refine c_reg ?_
  refine s_box (v := (.int .i64 x1)) rfl hO ?_
  intro b5 w2 hz5 hl5 hO2 e2
  have hO3 : Own w2 ((b5, .cells #[(.int .i64 x1)] 3 (0, 0)) :: L) := hO2
  refine sv (r_assign (v := .int _ _) rfl) ?_
  refine s_nil ?_
  refine c_next ?_
  refine c_seq ?_
  refine c_reg ?_
  refine sv (r_move (v := .slice _ _ _) rfl) ?_
  refine sv (r_makeFunc (fv := []) (cv := [(.pointer (some ⟨b5, 0, none⟩))]) rfl rfl) ?_
  have hR7 : Rd w2 L (some ⟨b5, 0, none⟩) [(.int .i64 x1)] := boxRd hO3
  obtain ⟨hO7, e7⟩ := hO3.drop1
  obtain ⟨y12, hy12, h⟩ := bindE h
  refine s_call cf70 rfl (c_slices_IndexFunc_ticket_Ticket x0 (fun z0 => F_ticket_Use_1 z0 x1) aP0 mP0 cP0 71 [] [(.pointer (some ⟨b5, 0, none⟩))] (fun w L => Rd w L (some ⟨b5, 0, none⟩) [(.int .i64 x1)]) cf71 (fun hi e => hi.ext e) (fun z0 r w L h hi hO => c_ticket_Use_1 z0 x1 _ r h w L hi hO) _ hy12 _ _ hm0p hc0p (hR0p.ext (e2.trans e7)) hR7 hO7) ?_
  rintro er12 w8 ⟨rfl, hO8, e8⟩
  refine ⟨_, rfl, ?_⟩
  refine sv (r_assign (v := .int _ _) rfl) ?_
  refine s_nil ?_
  refine c_next ?_
  refine c_seq ?_
  refine c_block ?_
  have hR0p := (hR0p.ext (e2.trans (e7.trans e8)))
  have hR7 := (hR7.ext e8)
  obtain ⟨oc9, G9, hG9, h, hr9⟩ := bindG h
  refine c_cutL hO8 (fun Lc f0 g w' => ∃ (xc1_t13 : Bool), (G9 xc1_t13 = some r) ∧ g 0 = (.slice aP0 mP0 cP0) ∧ g 3 = (.int .i64 x3) ∧ g 9 = (.int .i64 y12) ∧ g 13 = (.bool xc1_t13) ∧ Own w' L ∧ Ext w8 Lc w' L) ?_ ?_
  · skip
    refine c_reg ?_
    refine sv (r_move (v := .int _ _) rfl) ?_
    refine c_lss rfl rfl (fun h15 => ?_) (fun h15 => ?_)
    · replace h := iT h15 h
      refine sv (r_move (v := .bool true) rfl) ?_
      refine g_skip 16 (by rfl) rfl (by rfl) ?_
      refine g_skip 16 (by rfl) rfl (by rfl) ?_
      refine g_skip 16 (by rfl) rfl (by rfl) ?_
      refine g_skip 16 (by rfl) rfl (by rfl) ?_
      refine g_skip 16 (by rfl) rfl (by rfl) ?_
      refine g_skip 16 (by rfl) rfl (by rfl) ?_
      refine g_skip 16 (by rfl) rfl (by rfl) ?_
      refine g_skipU 23 (by rfl) rfl ?_
      refine g_skipU 23 (by rfl) rfl ?_
      refine g_skipU 23 (by rfl) rfl ?_
      refine g_skipU 23 (by rfl) rfl ?_
      refine g_skipU 23 (by rfl) rfl ?_
      refine g_skipU 23 (by rfl) rfl ?_
      refine g_skipU 23 (by rfl) rfl ?_
      refine g_skip 16 (by rfl) rfl (by rfl) ?_
      refine sv (r_pickT (v := .bool true) rfl rfl) ?_
      refine sv (r_assign (v := .bool true) rfl) ?_
      refine s_nil ?_
      refine c_next ?_
      rw [← Option.some.inj h] at hr9
      exact ⟨_, rfl, true, hr9, rfl, rfl, rfl, rfl, hO8, (Ext.refl _ _)⟩
    replace h := iF (Int.not_lt.2 h15) h
    refine sv (r_move (v := .bool false) rfl) ?_
    refine g_do 16 (by rfl) rfl ?_
    refine sv (r_move (v := .slice _ _ _) rfl) ?_
    refine g_do 16 (by rfl) rfl ?_
    refine sv (r_move (v := .int _ _) rfl) ?_
    refine g_do 16 (by rfl) rfl ?_
    obtain ⟨y19, hy19, h⟩ := bindE h
    refine a_idx (e := e_ticket_Ticket) (xs := x0) (i := y12) Try.underlying25 I59 rfl rfl (Rd.cs hR0p) e_ticket_Ticket_len (by decide) hm0p hy19 ?_
    intro p19 hp19
    refine g_do 16 (by rfl) rfl ?_
    refine sv (r_fieldAddr Try.underlying59 rfl I3 (by decide) rfl) ?_
    refine g_do 16 (by rfl) rfl ?_
    refine s_load1 (v := .int _ _) Try.underlying3 rfl rfl (cellP hp19 1 rfl) ?_
    refine g_do 16 (by rfl) rfl ?_
    refine c_geq rfl rfl (fun h22 => ?_) (fun h22 => ?_)
    · replace h := iT h22 h
      refine g_do 16 (by rfl) rfl ?_
      refine sv (r_move (v := .bool true) rfl) ?_
      refine g_do 23 (by rfl) rfl ?_
      refine sv (r_move (v := .slice _ _ _) rfl) ?_
      refine g_do 23 (by rfl) rfl ?_
      refine sv (r_move (v := .int _ _) rfl) ?_
      refine g_do 23 (by rfl) rfl ?_
      obtain ⟨y26, hy26, h⟩ := bindE h
      refine a_idx (e := e_ticket_Ticket) (xs := x0) (i := y12) Try.underlying25 I59 rfl rfl (Rd.cs hR0p) e_ticket_Ticket_len (by decide) hm0p hy26 ?_
      intro p26 hp26
      refine g_do 23 (by rfl) rfl ?_
      refine sv (r_fieldAddr Try.underlying59 rfl I3 (by decide) rfl) ?_
      refine g_do 23 (by rfl) rfl ?_
      refine s_load1 (v := .int _ _) Try.underlying3 rfl rfl (cellP hp26 1 rfl) ?_
      refine g_do 23 (by rfl) rfl ?_
      refine sv (r_move (v := .int _ _) rfl) ?_
      refine g_do 23 (by rfl) rfl ?_
      refine c_neq rfl rfl (fun h30 => ?_) (fun h30 => ?_)
      · replace h := iT h30 h
        refine g_do 16 (by rfl) rfl ?_
        refine sv (r_pickT (v := .bool true) rfl rfl) ?_
        refine sv (r_pickF (v := .bool true) rfl rfl) ?_
        refine sv (r_assign (v := .bool true) rfl) ?_
        refine s_nil ?_
        refine c_next ?_
        rw [← Option.some.inj h] at hr9
        exact ⟨_, rfl, true, hr9, rfl, rfl, rfl, rfl, hO8, (Ext.refl _ _)⟩
      replace h := iF (Classical.not_not.2 h30) h
      refine g_do 16 (by rfl) rfl ?_
      refine sv (r_pickT (v := .bool false) rfl rfl) ?_
      refine sv (r_pickF (v := .bool false) rfl rfl) ?_
      refine sv (r_assign (v := .bool false) rfl) ?_
      refine s_nil ?_
      refine c_next ?_
      rw [← Option.some.inj h] at hr9
      exact ⟨_, rfl, false, hr9, rfl, rfl, rfl, rfl, hO8, (Ext.refl _ _)⟩
    replace h := iF (Int.not_le.2 h22) h
    refine g_do 16 (by rfl) rfl ?_
    refine sv (r_move (v := .bool false) rfl) ?_
    refine g_skip 23 (by rfl) rfl (by rfl) ?_
    refine g_skip 23 (by rfl) rfl (by rfl) ?_
    refine g_skip 23 (by rfl) rfl (by rfl) ?_
    refine g_skip 23 (by rfl) rfl (by rfl) ?_
    refine g_skip 23 (by rfl) rfl (by rfl) ?_
    refine g_skip 23 (by rfl) rfl (by rfl) ?_
    refine g_skip 23 (by rfl) rfl (by rfl) ?_
    refine g_do 16 (by rfl) rfl ?_
    refine sv (r_pickF (v := .bool false) rfl rfl) ?_
    refine sv (r_pickF (v := .bool false) rfl rfl) ?_
    refine sv (r_assign (v := .bool false) rfl) ?_
    refine s_nil ?_
    refine c_next ?_
    rw [← Option.some.inj h] at hr9
    exact ⟨_, rfl, false, hr9, rfl, rfl, rfl, rfl, hO8, (Ext.refl _ _)⟩
  intro gg9 w9 hI9
  clear h hr9
  obtain ⟨xc1_t13, h, hsc1_0, hsc1_3, hsc1_9, hsc1_13, hO9, e9⟩ := hI9
  replace h := hG_ hG9 h; clear hG9
  obtain ⟨qq9, rfl⟩ := fr4 hsc1_0 hsc1_3 hsc1_9 hsc1_13
  clear hsc1_0 hsc1_3 hsc1_9 hsc1_13
  rcases Bool.eq_false_or_eq_true (xc1_t13) with hb10 | hb10
  · replace h := iT hb10 h
    refine c_condT (congrArg Value.bool hb10) ?_
    refine c_seq ?_
    refine c_reg ?_
    refine sv (r_assign (v := .int _ _) rfl) ?_
    refine s_nil ?_
    refine c_next ?_
    refine c_ret ?_
    refine r_block ?_
    refine r_then ?_
    refine e_1 (v := .int _ _) Try.results48 rfl ?_
    rw [← Option.some.inj h]
    exact ⟨rfl, hO9, (e2.trans (e7.trans (e8.trans e9)))⟩
  replace h := iF (nt hb10) h
  refine c_condF (congrArg Value.bool hb10) ?_
  refine c_seq ?_
  refine c_reg ?_
  refine sv (r_move (v := .slice _ _ _) rfl) ?_
  refine sv (r_move (v := .int _ _) rfl) ?_
  obtain ⟨y36, hy36, h⟩ := bindE h
  refine a_idx (e := e_ticket_Ticket) (xs := x0) (i := y12) Try.underlying25 I59 rfl rfl (Rd.cs (hR0p.ext e9)) e_ticket_Ticket_len (by decide) hm0p hy36 ?_
  intro p36 hp36
  refine sv (r_fieldAddr Try.underlying59 rfl I3 (by decide) rfl) ?_
  refine s_load1 (v := .int _ _) Try.underlying3 rfl rfl (cellP hp36 2 rfl) ?_
  refine sv (r_move (v := .int _ _) rfl) ?_
  refine c_lss rfl rfl (fun h40 => ?_) (fun h40 => ?_)
  · replace h := iT h40 h
    refine sv (r_assign (v := .bool true) rfl) ?_
    refine s_nil ?_
    refine c_next ?_
    refine c_condT rfl ?_
    refine c_seq ?_
    refine c_reg ?_
    refine sv (r_assign (v := .int _ _) rfl) ?_
    refine s_nil ?_
    refine c_next ?_
    refine c_ret ?_
    refine r_block ?_
    refine r_then ?_
    refine e_1 (v := .int _ _) Try.results48 rfl ?_
    rw [← Option.some.inj h]
    exact ⟨rfl, hO9, (e2.trans (e7.trans (e8.trans e9)))⟩
  replace h := iF (Int.not_lt.2 h40) h
  refine sv (r_assign (v := .bool false) rfl) ?_
  refine s_nil ?_
  refine c_next ?_
  refine c_condF rfl ?_
  refine c_skip ?_
  refine x_norm ?_
  refine c_next ?_
  refine c_seq ?_
  refine c_reg ?_
  refine sv (r_assign (v := .int _ _) rfl) ?_
  refine s_nil ?_
  refine c_next ?_
  refine c_ret ?_
  refine e_1 (v := .int _ _) Try.results48 rfl ?_
  rw [← Option.some.inj h]
  exact ⟨rfl, hO9, (e2.trans (e7.trans (e8.trans e9)))⟩
theorem c_claim_State_asked (x0 : T_claim_State) (x1 : T_claim_Op) (aP0 : Option Addr) (mP0 cP0 : Nat) (aP1 : Option Addr) (mP1 cP1 : Nat)  (r : (T_claim_State × Int)) (h : F_claim_State_asked x0 x1 = some r) (w : World) (L : Hp) (hm0p : x0.Roster.length = mP0) (hc0p : mP0 ≤ cP0) (hR0p : Rd w L aP0 (fl e_roster_Device x0.Roster)) (hm1p : x0.Tickets.length = mP1) (hc1p : mP1 ≤ cP1) (hR1p : Rd w L aP1 (fl e_ticket_Ticket x0.Tickets)) (hO : Own w L) :
    Calls Try.prog 22 #[(.agg #[(.int .i64 x0.Epoch), (.int .i64 x0.Owner), (.int .i64 x0.Next), (.slice aP0 mP0 cP0), (.slice aP1 mP1 cP1)]), (.agg #[(.int .i64 x1.Kind), (.int .i64 x1.Device), (.int .i64 x1.Request), (.int .i64 x1.Ticket), (.int .i64 x1.For), (.int .i64 x1.Until), (.int .i64 x1.Now)])] w fun en w' => ∃ (ra0 : Option Addr) (rm0 rc0 : Nat) (ra1 : Option Addr) (rm1 rc1 : Nat), en = .returned (.tuple #[(.agg #[(.int .i64 r.1.Epoch), (.int .i64 r.1.Owner), (.int .i64 r.1.Next), (.slice ra0 rm0 rc0), (.slice ra1 rm1 rc1)]), (.int .i64 r.2)]) ∧ r.1.Roster.length = rm0 ∧ rm0 ≤ rc0 ∧ Rd w' L ra0 (fl e_roster_Device r.1.Roster) ∧ r.1.Tickets.length = rm1 ∧ rm1 ≤ rc1 ∧ Rd w' L ra1 (fl e_ticket_Ticket r.1.Tickets) ∧ Own w' L ∧ Ext w L w' L := by
  unfold F_claim_State_asked at h
  refine enter (n := 55) [(.agg #[(.int .i64 x0.Epoch), (.int .i64 x0.Owner), (.int .i64 x0.Next), (.slice aP0 mP0 cP0), (.slice aP1 mP1 cP1)]), (.agg #[(.int .i64 x1.Kind), (.int .i64 x1.Device), (.int .i64 x1.Request), (.int .i64 x1.Ticket), (.int .i64 x1.For), (.int .i64 x1.Until), (.int .i64 x1.Now)])] Try.func22 rfl rfl (Nat.le_of_ble_eq_true rfl) ?_
  refine c_seq ?_
  refine c_reg ?_
  refine s_box (v := (.agg #[(.int .i64 x0.Epoch), (.int .i64 x0.Owner), (.int .i64 x0.Next), (.slice aP0 mP0 cP0), (.slice aP1 mP1 cP1)])) rfl hO ?_
  intro b2 w4 hz2 hl2 hO4 e4
  have hO5 : Own w4 ((b2, .cells #[(.int .i64 x0.Epoch), (.int .i64 x0.Owner), (.int .i64 x0.Next), (.slice aP0 mP0 cP0), (.slice aP1 mP1 cP1)] 27 (0, 0)) :: L) := hO4
  refine s_box (v := (.agg #[(.int .i64 x1.Kind), (.int .i64 x1.Device), (.int .i64 x1.Request), (.int .i64 x1.Ticket), (.int .i64 x1.For), (.int .i64 x1.Until), (.int .i64 x1.Now)])) rfl hO5 ?_
  intro b3 w7 hz3 hl3 hO7 e7
  have hO8 : Own w7 ((b3, .cells #[(.int .i64 x1.Kind), (.int .i64 x1.Device), (.int .i64 x1.Request), (.int .i64 x1.Ticket), (.int .i64 x1.For), (.int .i64 x1.Until), (.int .i64 x1.Now)] 37 (0, 0)) :: ((b2, .cells #[(.int .i64 x0.Epoch), (.int .i64 x0.Owner), (.int .i64 x0.Next), (.slice aP0 mP0 cP0), (.slice aP1 mP1 cP1)] 27 (0, 0)) :: L)) := hO7
  refine s_alloc I27 hO8 ?_
  intro b4 w10 hz4 hl4 hO10 e10
  have hO11 : Own w10 ((b4, .cells #[(.int .i64 0), (.int .i64 0), (.int .i64 0), (.slice none 0 0), (.slice none 0 0)] 27 (0, 0)) :: ((b3, .cells #[(.int .i64 x1.Kind), (.int .i64 x1.Device), (.int .i64 x1.Request), (.int .i64 x1.Ticket), (.int .i64 x1.For), (.int .i64 x1.Until), (.int .i64 x1.Now)] 37 (0, 0)) :: ((b2, .cells #[(.int .i64 x0.Epoch), (.int .i64 x0.Owner), (.int .i64 x0.Next), (.slice aP0 mP0 cP0), (.slice aP1 mP1 cP1)] 27 (0, 0)) :: L))) := hO10
  refine sv (r_assign (v := .int _ _) rfl) ?_
  refine s_nil ?_
  refine c_next ?_
  refine c_seq ?_
  refine c_reg ?_
  refine sv (r_fieldAddr Try.underlying27 rfl I24 (by decide) rfl) ?_
  refine s_load1 (v := .slice _ _ _) Try.underlying24 rfl rfl (cellB (hO11.get (i := 2) rfl) rfl rfl) ?_
  refine sv (r_fieldAddr Try.underlying37 rfl I3 (by decide) rfl) ?_
  refine s_load1 (v := .int _ _) Try.underlying3 rfl rfl (cellB (hO11.get (i := 1) rfl) rfl rfl) ?_
  refine sv (r_fieldAddr Try.underlying37 rfl I3 (by decide) rfl) ?_
  refine s_load1 (v := .int _ _) Try.underlying3 rfl rfl (cellB (hO11.get (i := 1) rfl) rfl rfl) ?_
  obtain ⟨y16, hy16, h⟩ := bindE h
  refine s_call cf46 rfl (c_roster_Accept x0.Roster x1.Device x1.Request aP0 mP0 cP0 _ hy16 _ _ hm0p hc0p (hR0p.ext (e4.trans (e7.trans e10))) hO11) ?_
  rintro er16 w14 ⟨a16_0, m16_0, c16_0, S16_0, rfl, hm16_0, hS16_0, hO14, e14⟩
  refine ⟨_, rfl, ?_⟩
  refine sv (r_move (v := .tuple _) rfl) ?_
  refine sv (r_extract rfl rfl) ?_
  refine sv (r_extract rfl rfl) ?_
  refine sv (r_assign (v := .slice _ _ _) rfl) ?_
  refine sv (r_assign (v := .int _ _) rfl) ?_
  refine s_nil ?_
  refine c_next ?_
  refine c_seq ?_
  have hR0p := (hR0p.ext (e4.trans (e7.trans (e10.trans e14))))
  have hR1p := (hR1p.ext (e4.trans (e7.trans (e10.trans e14))))
  obtain ⟨oc17, G17, hG17, h, hr17⟩ := bindG h
  refine c_cutL hO14 (fun Lc f0 g w' => ∃ (xc1_t20 : Bool), (G17 xc1_t20 = some r) ∧ g 2 = (.pointer (some ⟨b2, 0, none⟩)) ∧ g 3 = (.pointer (some ⟨b3, 0, none⟩)) ∧ g 4 = (.pointer (some ⟨b4, 0, none⟩)) ∧ g 6 = (.slice a16_0 m16_0 c16_0) ∧ g 7 = (.int .i64 y16.2) ∧ g 20 = (.bool xc1_t20) ∧ Own w' (S16_0 ++ ((b2, .cells #[(.int .i64 x0.Epoch), (.int .i64 x0.Owner), (.int .i64 x0.Next), (.slice aP0 mP0 cP0), (.slice aP1 mP1 cP1)] 27 (0, 0)) :: ((b3, .cells #[(.int .i64 x1.Kind), (.int .i64 x1.Device), (.int .i64 x1.Request), (.int .i64 x1.Ticket), (.int .i64 x1.For), (.int .i64 x1.Until), (.int .i64 x1.Now)] 37 (0, 0)) :: ((b4, .cells #[(.int .i64 0), (.int .i64 0), (.int .i64 0), (.slice none 0 0), (.slice none 0 0)] 27 (0, 0)) :: L)))) ∧ Ext w14 Lc w' (S16_0 ++ ((b2, .cells #[(.int .i64 x0.Epoch), (.int .i64 x0.Owner), (.int .i64 x0.Next), (.slice aP0 mP0 cP0), (.slice aP1 mP1 cP1)] 27 (0, 0)) :: ((b3, .cells #[(.int .i64 x1.Kind), (.int .i64 x1.Device), (.int .i64 x1.Request), (.int .i64 x1.Ticket), (.int .i64 x1.For), (.int .i64 x1.Until), (.int .i64 x1.Now)] 37 (0, 0)) :: ((b4, .cells #[(.int .i64 0), (.int .i64 0), (.int .i64 0), (.slice none 0 0), (.slice none 0 0)] 27 (0, 0)) :: L))))) ?_ ?_
  · skip
    refine c_reg ?_
    refine sv (r_move (v := .int _ _) rfl) ?_
    refine c_neq rfl rfl (fun h20 => ?_) (fun h20 => ?_)
    · replace h := iT h20 h
      refine s_nil ?_
      refine c_next ?_
      rw [← Option.some.inj h] at hr17
      obtain ⟨hO18, e18⟩ := hO14.permE (pmbA pmb0)
      obtain ⟨hO19, e19⟩ := hO18.permE (pmbC (pmbA pmb0))
      obtain ⟨hO20, e20⟩ := hO19.permE (pmbC (pmbC (pmbA pmb0)))
      obtain ⟨hO21, e21⟩ := hO20.permE (pmC (pmC (pmC pm0)))
      exact ⟨_, rfl, true, hr17, rfl, rfl, rfl, rfl, rfl, rfl, hO21, (e18.trans (e19.trans (e20.trans e21)))⟩
    replace h := iF (Classical.not_not.2 h20) h
    refine s_nil ?_
    refine c_next ?_
    rw [← Option.some.inj h] at hr17
    obtain ⟨hO22, e22⟩ := hO14.permE (pmbA pmb0)
    obtain ⟨hO23, e23⟩ := hO22.permE (pmbC (pmbA pmb0))
    obtain ⟨hO24, e24⟩ := hO23.permE (pmbC (pmbC (pmbA pmb0)))
    obtain ⟨hO25, e25⟩ := hO24.permE (pmC (pmC (pmC pm0)))
    exact ⟨_, rfl, false, hr17, rfl, rfl, rfl, rfl, rfl, rfl, hO25, (e22.trans (e23.trans (e24.trans e25)))⟩
  intro gg17 w17 hI17
  clear h hr17
  obtain ⟨xc1_t20, h, hsc1_2, hsc1_3, hsc1_4, hsc1_6, hsc1_7, hsc1_20, hO17, e17⟩ := hI17
  replace h := hG_ hG17 h; clear hG17
  obtain ⟨qq17, rfl⟩ := fr6 hsc1_2 hsc1_3 hsc1_4 hsc1_6 hsc1_7 hsc1_20
  clear hsc1_2 hsc1_3 hsc1_4 hsc1_6 hsc1_7 hsc1_20
  rcases Bool.eq_false_or_eq_true (xc1_t20) with hb26 | hb26
  · replace h := iT hb26 h
    refine c_condT (congrArg Value.bool hb26) ?_
    refine c_seq ?_
    refine c_reg ?_
    refine s_loadAll Try.underlying27 rfl I27 rfl ((hO17.perm (pmbA pmb0)).get (i := 0) rfl) rfl rfl ?_
    refine sv (r_move (v := .int _ _) rfl) ?_
    obtain ⟨hO30, e30⟩ := hO17.permE (pmbA (pmbC (pmbC pmb0)))
    refine s_storeN (vs := #[(.int .i64 x0.Epoch), (.int .i64 x0.Owner), (.int .i64 x0.Next), (.slice aP0 mP0 cP0), (.slice aP1 mP1 cP1)]) I27 rfl rfl rfl hO30 (i := 0) rfl (Nat.le_of_ble_eq_true rfl) (List.all_eq_true.1 rfl) ?_
    intro w29 hO29 e29
    have hO31 : Own w29 ((b4, .cells #[(.int .i64 x0.Epoch), (.int .i64 x0.Owner), (.int .i64 x0.Next), (.slice aP0 mP0 cP0), (.slice aP1 mP1 cP1)] 27 (0, 0)) :: (S16_0 ++ ((b2, .cells #[(.int .i64 x0.Epoch), (.int .i64 x0.Owner), (.int .i64 x0.Next), (.slice aP0 mP0 cP0), (.slice aP1 mP1 cP1)] 27 (0, 0)) :: ((b3, .cells #[(.int .i64 x1.Kind), (.int .i64 x1.Device), (.int .i64 x1.Request), (.int .i64 x1.Ticket), (.int .i64 x1.For), (.int .i64 x1.Until), (.int .i64 x1.Now)] 37 (0, 0)) :: L)))) := hO29
    refine sv (r_assign (v := .int _ _) rfl) ?_
    refine s_nil ?_
    refine c_next ?_
    refine c_ret ?_
    refine r_then ?_
    refine e_r2 Try.results22 (rv_agg Try.underlying27 rfl I27 rfl (hO31.get (i := 0) rfl) rfl rfl) (rv_tmp (v := .int _ _) rfl) ?_
    obtain ⟨hO33, e33⟩ := hO31.drop1
    have hR34 := (hS16_0.drop hO33).2.2
    obtain ⟨hO34, e34⟩ := hO33.dropS
    obtain ⟨hO35, e35⟩ := hO34.drop1
    obtain ⟨hO36, e36⟩ := hO35.drop1
    rw [← Option.some.inj h]
    exact ⟨aP0, mP0, cP0, aP1, mP1, cP1, rfl, hm0p, hc0p, (hR0p.ext (e17.trans (e30.trans (e29.trans (e33.trans (e34.trans (e35.trans e36))))))), hm1p, hc1p, (hR1p.ext (e17.trans (e30.trans (e29.trans (e33.trans (e34.trans (e35.trans e36))))))), hO36, (e4.trans (e7.trans (e10.trans (e14.trans (e17.trans (e30.trans (e29.trans (e33.trans (e34.trans (e35.trans e36))))))))))⟩
  replace h := iF (nt hb26) h
  refine c_condF (congrArg Value.bool hb26) ?_
  refine c_skip ?_
  refine c_next ?_
  refine c_seq ?_
  refine c_reg ?_
  refine sv (r_move (v := .slice _ _ _) rfl) ?_
  refine sv (r_fieldAddr Try.underlying27 rfl I24 (by decide) rfl) ?_
  obtain ⟨hO40, e40⟩ := hO17.permE (pmbA pmb0)
  refine s_store1 (v := (.slice a16_0 m16_0 c16_0)) (o := 3) I24 rfl rfl rfl hO40 (i := 0) rfl rfl rfl ?_
  intro w39 hO39 e39
  have hO41 : Own w39 ((b2, .cells #[(.int .i64 x0.Epoch), (.int .i64 x0.Owner), (.int .i64 x0.Next), (.slice a16_0 m16_0 c16_0), (.slice aP1 mP1 cP1)] 27 (0, 0)) :: (S16_0 ++ ((b3, .cells #[(.int .i64 x1.Kind), (.int .i64 x1.Device), (.int .i64 x1.Request), (.int .i64 x1.Ticket), (.int .i64 x1.For), (.int .i64 x1.Until), (.int .i64 x1.Now)] 37 (0, 0)) :: ((b4, .cells #[(.int .i64 0), (.int .i64 0), (.int .i64 0), (.slice none 0 0), (.slice none 0 0)] 27 (0, 0)) :: L)))) := hO39
  refine s_nil ?_
  refine c_next ?_
  refine c_seq ?_
  refine c_seq ?_
  refine c_reg ?_
  refine sv (r_fieldAddr Try.underlying37 rfl I3 (by decide) rfl) ?_
  refine s_load1 (v := .int _ _) Try.underlying3 rfl rfl (cellB ((hO41.perm (pmbC (pmbA pmb0))).get (i := 0) rfl) rfl rfl) ?_
  refine s_nil ?_
  refine c_next ?_
  refine c_block ?_
  have hR0p := (hR0p.ext (e17.trans (e40.trans e39)))
  have hR1p := (hR1p.ext (e17.trans (e40.trans e39)))
  obtain ⟨oc60, G60, hG60, h, hr60⟩ := bindG h
  refine c_cutL hO41 (fun Lc f0 g w' => ∃ (xc2_t27 : Bool), (G60 xc2_t27 = some r) ∧ g 2 = (.pointer (some ⟨b2, 0, none⟩)) ∧ g 3 = (.pointer (some ⟨b3, 0, none⟩)) ∧ g 4 = (.pointer (some ⟨b4, 0, none⟩)) ∧ g 26 = (.int .i64 x1.Kind) ∧ g 27 = (.bool xc2_t27) ∧ Own w' (S16_0 ++ ((b2, .cells #[(.int .i64 x0.Epoch), (.int .i64 x0.Owner), (.int .i64 x0.Next), (.slice a16_0 m16_0 c16_0), (.slice aP1 mP1 cP1)] 27 (0, 0)) :: ((b3, .cells #[(.int .i64 x1.Kind), (.int .i64 x1.Device), (.int .i64 x1.Request), (.int .i64 x1.Ticket), (.int .i64 x1.For), (.int .i64 x1.Until), (.int .i64 x1.Now)] 37 (0, 0)) :: ((b4, .cells #[(.int .i64 0), (.int .i64 0), (.int .i64 0), (.slice none 0 0), (.slice none 0 0)] 27 (0, 0)) :: L)))) ∧ Ext w39 Lc w' (S16_0 ++ ((b2, .cells #[(.int .i64 x0.Epoch), (.int .i64 x0.Owner), (.int .i64 x0.Next), (.slice a16_0 m16_0 c16_0), (.slice aP1 mP1 cP1)] 27 (0, 0)) :: ((b3, .cells #[(.int .i64 x1.Kind), (.int .i64 x1.Device), (.int .i64 x1.Request), (.int .i64 x1.Ticket), (.int .i64 x1.For), (.int .i64 x1.Until), (.int .i64 x1.Now)] 37 (0, 0)) :: ((b4, .cells #[(.int .i64 0), (.int .i64 0), (.int .i64 0), (.slice none 0 0), (.slice none 0 0)] 27 (0, 0)) :: L))))) ?_ ?_
  · skip
    refine c_reg ?_
    refine c_eql rfl rfl (fun h28 => ?_) (fun h28 => ?_)
    · replace h := iT h28 h
      refine sv (r_assign (v := .bool true) rfl) ?_
      refine s_nil ?_
      refine c_next ?_
      rw [← Option.some.inj h] at hr60
      obtain ⟨hO61, e61⟩ := hO41.permE (pmbC (pmbA (pmbC pmb0)))
      obtain ⟨hO62, e62⟩ := hO61.permE (pmbC (pmbC (pmbA pmb0)))
      obtain ⟨hO63, e63⟩ := hO62.permE (pmbC (pmbC pmb0))
      obtain ⟨hO64, e64⟩ := hO63.permE (pmC (pmC (pmC pm0)))
      exact ⟨_, rfl, true, hr60, rfl, rfl, rfl, rfl, rfl, hO64, (e61.trans (e62.trans (e63.trans e64)))⟩
    replace h := iF h28 h
    refine sv (r_assign (v := .bool false) rfl) ?_
    refine s_nil ?_
    refine c_next ?_
    rw [← Option.some.inj h] at hr60
    obtain ⟨hO65, e65⟩ := hO41.permE (pmbC (pmbA (pmbC pmb0)))
    obtain ⟨hO66, e66⟩ := hO65.permE (pmbC (pmbC (pmbA pmb0)))
    obtain ⟨hO67, e67⟩ := hO66.permE (pmbC (pmbC pmb0))
    obtain ⟨hO68, e68⟩ := hO67.permE (pmC (pmC (pmC pm0)))
    exact ⟨_, rfl, false, hr60, rfl, rfl, rfl, rfl, rfl, hO68, (e65.trans (e66.trans (e67.trans e68)))⟩
  intro gg60 w60 hI60
  clear h hr60
  obtain ⟨xc2_t27, h, hsc2_2, hsc2_3, hsc2_4, hsc2_26, hsc2_27, hO60, e60⟩ := hI60
  replace h := hG_ hG60 h; clear hG60
  obtain ⟨qq60, rfl⟩ := fr5 hsc2_2 hsc2_3 hsc2_4 hsc2_26 hsc2_27
  clear hsc2_2 hsc2_3 hsc2_4 hsc2_26 hsc2_27
  rcases Bool.eq_false_or_eq_true (xc2_t27) with hb69 | hb69
  · replace h := iT hb69 h
    refine c_condT (congrArg Value.bool hb69) ?_
    refine c_seq ?_
    refine c_reg ?_
    refine s_loadAll Try.underlying27 rfl I27 rfl ((hO60.perm (pmbA pmb0)).get (i := 0) rfl) rfl rfl ?_
    refine s_loadAll Try.underlying37 rfl I37 rfl ((hO60.perm (pmbA (pmbC pmb0))).get (i := 0) rfl) rfl rfl ?_
    have hR73 := (hS16_0.drop hO60).2.2
    obtain ⟨hO73, e73⟩ := hO60.dropS
    obtain ⟨y31, hy31, h⟩ := bindE h
    refine s_call cf47 rfl (c_claim_State_issue ({ Epoch := x0.Epoch, Owner := x0.Owner, Next := x0.Next, Roster := y16.1, Tickets := x0.Tickets } : T_claim_State) x1 a16_0 m16_0 c16_0 aP1 mP1 cP1 _ hy31 _ _ hm16_0 hS16_0.le.1 hR73 hm1p hc1p (hR1p.ext (e60.trans e73)) hO73) ?_
    rintro er31 w74 ⟨a31_0, m31_0, c31_0, a31_1, m31_1, c31_1, rfl, hm31_0, hc31_0, hR31_0, hm31_1, hc31_1, hR31_1, hO74, e74⟩
    refine ⟨_, rfl, ?_⟩
    refine sv (r_extract rfl rfl) ?_
    refine sv (r_extract rfl rfl) ?_
    refine s_storeN (vs := #[(.int .i64 y31.1.Epoch), (.int .i64 y31.1.Owner), (.int .i64 y31.1.Next), (.slice a31_0 m31_0 c31_0), (.slice a31_1 m31_1 c31_1)]) I27 rfl rfl rfl hO74 (i := 2) rfl (Nat.le_of_ble_eq_true rfl) (List.all_eq_true.1 rfl) ?_
    intro w75 hO75 e75
    have hO76 : Own w75 ((b2, .cells #[(.int .i64 x0.Epoch), (.int .i64 x0.Owner), (.int .i64 x0.Next), (.slice a16_0 m16_0 c16_0), (.slice aP1 mP1 cP1)] 27 (0, 0)) :: ((b3, .cells #[(.int .i64 x1.Kind), (.int .i64 x1.Device), (.int .i64 x1.Request), (.int .i64 x1.Ticket), (.int .i64 x1.For), (.int .i64 x1.Until), (.int .i64 x1.Now)] 37 (0, 0)) :: ((b4, .cells #[(.int .i64 y31.1.Epoch), (.int .i64 y31.1.Owner), (.int .i64 y31.1.Next), (.slice a31_0 m31_0 c31_0), (.slice a31_1 m31_1 c31_1)] 27 (0, 0)) :: L))) := hO75
    refine sv (r_assign (v := .int _ _) rfl) ?_
    refine s_nil ?_
    refine c_next ?_
    refine c_ret ?_
    refine r_block ?_
    refine r_then ?_
    refine e_r2 Try.results22 (rv_agg Try.underlying27 rfl I27 rfl (hO76.get (i := 2) rfl) rfl rfl) (rv_tmp (v := .int _ _) rfl) ?_
    obtain ⟨hO78, e78⟩ := hO76.drop1
    obtain ⟨hO79, e79⟩ := hO78.drop1
    obtain ⟨hO80, e80⟩ := hO79.drop1
    rw [← Option.some.inj h]
    exact ⟨a31_0, m31_0, c31_0, a31_1, m31_1, c31_1, rfl, hm31_0, hc31_0, (hR31_0.ext (e75.trans (e78.trans (e79.trans e80)))), hm31_1, hc31_1, (hR31_1.ext (e75.trans (e78.trans (e79.trans e80)))), hO80, (e4.trans (e7.trans (e10.trans (e14.trans (e17.trans (e40.trans (e39.trans (e60.trans (e73.trans (e74.trans (e75.trans (e78.trans (e79.trans e80)))))))))))))⟩
  replace h := iF (nt hb69) h
  refine c_condF (congrArg Value.bool hb69) ?_
  have hR0p := (hR0p.ext e60)
  have hR1p := (hR1p.ext e60)
  obtain ⟨oc81, G81, hG81, h, hr81⟩ := bindG h
  refine c_cutL hO60 (fun Lc f0 g w' => ∃ (xc3_t34 : Bool), (G81 xc3_t34 = some r) ∧ g 2 = (.pointer (some ⟨b2, 0, none⟩)) ∧ g 3 = (.pointer (some ⟨b3, 0, none⟩)) ∧ g 4 = (.pointer (some ⟨b4, 0, none⟩)) ∧ g 34 = (.bool xc3_t34) ∧ Own w' (S16_0 ++ ((b2, .cells #[(.int .i64 x0.Epoch), (.int .i64 x0.Owner), (.int .i64 x0.Next), (.slice a16_0 m16_0 c16_0), (.slice aP1 mP1 cP1)] 27 (0, 0)) :: ((b3, .cells #[(.int .i64 x1.Kind), (.int .i64 x1.Device), (.int .i64 x1.Request), (.int .i64 x1.Ticket), (.int .i64 x1.For), (.int .i64 x1.Until), (.int .i64 x1.Now)] 37 (0, 0)) :: ((b4, .cells #[(.int .i64 0), (.int .i64 0), (.int .i64 0), (.slice none 0 0), (.slice none 0 0)] 27 (0, 0)) :: L)))) ∧ Ext w60 Lc w' (S16_0 ++ ((b2, .cells #[(.int .i64 x0.Epoch), (.int .i64 x0.Owner), (.int .i64 x0.Next), (.slice a16_0 m16_0 c16_0), (.slice aP1 mP1 cP1)] 27 (0, 0)) :: ((b3, .cells #[(.int .i64 x1.Kind), (.int .i64 x1.Device), (.int .i64 x1.Request), (.int .i64 x1.Ticket), (.int .i64 x1.For), (.int .i64 x1.Until), (.int .i64 x1.Now)] 37 (0, 0)) :: ((b4, .cells #[(.int .i64 0), (.int .i64 0), (.int .i64 0), (.slice none 0 0), (.slice none 0 0)] 27 (0, 0)) :: L))))) ?_ ?_
  · skip
    refine c_reg ?_
    refine c_eql rfl rfl (fun h35 => ?_) (fun h35 => ?_)
    · replace h := iT h35 h
      refine sv (r_assign (v := .bool true) rfl) ?_
      refine s_nil ?_
      refine c_next ?_
      rw [← Option.some.inj h] at hr81
      exact ⟨_, rfl, true, hr81, rfl, rfl, rfl, rfl, hO60, (Ext.refl _ _)⟩
    replace h := iF h35 h
    refine sv (r_assign (v := .bool false) rfl) ?_
    refine s_nil ?_
    refine c_next ?_
    rw [← Option.some.inj h] at hr81
    exact ⟨_, rfl, false, hr81, rfl, rfl, rfl, rfl, hO60, (Ext.refl _ _)⟩
  intro gg81 w81 hI81
  clear h hr81
  obtain ⟨xc3_t34, h, hsc3_2, hsc3_3, hsc3_4, hsc3_34, hO81, e81⟩ := hI81
  replace h := hG_ hG81 h; clear hG81
  obtain ⟨qq81, rfl⟩ := fr4 hsc3_2 hsc3_3 hsc3_4 hsc3_34
  clear hsc3_2 hsc3_3 hsc3_4 hsc3_34
  rcases Bool.eq_false_or_eq_true (xc3_t34) with hb82 | hb82
  · replace h := iT hb82 h
    refine c_condT (congrArg Value.bool hb82) ?_
    refine c_seq ?_
    refine c_reg ?_
    refine sv (r_fieldAddr Try.underlying27 rfl I25 (by decide) rfl) ?_
    refine s_load1 (v := .slice _ _ _) Try.underlying25 rfl rfl (cellB ((hO81.perm (pmbA pmb0)).get (i := 0) rfl) rfl rfl) ?_
    refine sv (r_fieldAddr Try.underlying37 rfl I3 (by decide) rfl) ?_
    refine s_load1 (v := .int _ _) Try.underlying3 rfl rfl (cellB ((hO81.perm (pmbA (pmbC pmb0))).get (i := 0) rfl) rfl rfl) ?_
    refine sv (r_fieldAddr Try.underlying37 rfl I3 (by decide) rfl) ?_
    refine s_load1 (v := .int _ _) Try.underlying3 rfl rfl (cellB ((hO81.perm (pmbA (pmbC pmb0))).get (i := 0) rfl) rfl rfl) ?_
    refine sv (r_fieldAddr Try.underlying37 rfl I3 (by decide) rfl) ?_
    refine s_load1 (v := .int _ _) Try.underlying3 rfl rfl (cellB ((hO81.perm (pmbA (pmbC pmb0))).get (i := 0) rfl) rfl rfl) ?_
    obtain ⟨y44, hy44, h⟩ := bindE h
    refine s_call cf48 rfl (c_ticket_Use x0.Tickets x1.Ticket x1.Device x1.Now aP1 mP1 cP1 _ hy44 _ _ hm1p hc1p (hR1p.ext e81) hO81) ?_
    rintro er44 w84 ⟨rfl, hO84, e84⟩
    refine ⟨_, rfl, ?_⟩
    refine sv (r_assign (v := .int _ _) rfl) ?_
    refine s_nil ?_
    refine c_next ?_
    refine c_seq ?_
    refine c_reg ?_
    refine sv (r_move (v := .int _ _) rfl) ?_
    refine c_neq rfl rfl (fun h46 => ?_) (fun h46 => ?_)
    · replace h := iT h46 h
      refine s_nil ?_
      refine c_next ?_
      refine c_condT rfl ?_
      refine c_seq ?_
      refine c_reg ?_
      refine s_loadAll Try.underlying27 rfl I27 rfl ((hO84.perm (pmbA pmb0)).get (i := 0) rfl) rfl rfl ?_
      refine sv (r_move (v := .int _ _) rfl) ?_
      obtain ⟨hO88, e88⟩ := hO84.permE (pmbA (pmbC (pmbC pmb0)))
      refine s_storeN (vs := #[(.int .i64 x0.Epoch), (.int .i64 x0.Owner), (.int .i64 x0.Next), (.slice a16_0 m16_0 c16_0), (.slice aP1 mP1 cP1)]) I27 rfl rfl rfl hO88 (i := 0) rfl (Nat.le_of_ble_eq_true rfl) (List.all_eq_true.1 rfl) ?_
      intro w87 hO87 e87
      have hO89 : Own w87 ((b4, .cells #[(.int .i64 x0.Epoch), (.int .i64 x0.Owner), (.int .i64 x0.Next), (.slice a16_0 m16_0 c16_0), (.slice aP1 mP1 cP1)] 27 (0, 0)) :: (S16_0 ++ ((b2, .cells #[(.int .i64 x0.Epoch), (.int .i64 x0.Owner), (.int .i64 x0.Next), (.slice a16_0 m16_0 c16_0), (.slice aP1 mP1 cP1)] 27 (0, 0)) :: ((b3, .cells #[(.int .i64 x1.Kind), (.int .i64 x1.Device), (.int .i64 x1.Request), (.int .i64 x1.Ticket), (.int .i64 x1.For), (.int .i64 x1.Until), (.int .i64 x1.Now)] 37 (0, 0)) :: L)))) := hO87
      refine sv (r_assign (v := .int _ _) rfl) ?_
      refine s_nil ?_
      refine c_next ?_
      refine c_ret ?_
      refine r_block ?_
      refine r_then ?_
      refine e_r2 Try.results22 (rv_agg Try.underlying27 rfl I27 rfl (hO89.get (i := 0) rfl) rfl rfl) (rv_tmp (v := .int _ _) rfl) ?_
      obtain ⟨hO91, e91⟩ := hO89.permE (pmC pm0)
      have hR92 := (hS16_0.drop hO91).2.2
      obtain ⟨hO92, e92⟩ := hO91.dropS
      obtain ⟨hO93, e93⟩ := hO92.drop1
      obtain ⟨hO94, e94⟩ := hO93.drop1
      obtain ⟨hO95, e95⟩ := hO94.drop1
      rw [← Option.some.inj h]
      exact ⟨a16_0, m16_0, c16_0, aP1, mP1, cP1, rfl, hm16_0, hS16_0.le.1, (hR92.ext (e93.trans (e94.trans e95))), hm1p, hc1p, (hR1p.ext (e81.trans (e84.trans (e88.trans (e87.trans (e91.trans (e92.trans (e93.trans (e94.trans e95))))))))), hO95, (e4.trans (e7.trans (e10.trans (e14.trans (e17.trans (e40.trans (e39.trans (e60.trans (e81.trans (e84.trans (e88.trans (e87.trans (e91.trans (e92.trans (e93.trans (e94.trans e95))))))))))))))))⟩
    replace h := iF (Classical.not_not.2 h46) h
    refine s_nil ?_
    refine c_next ?_
    refine c_condF rfl ?_
    refine c_skip ?_
    refine x_norm ?_
    refine c_next ?_
    refine c_seq ?_
    refine c_reg ?_
    refine s_loadAll Try.underlying27 rfl I27 rfl ((hO84.perm (pmbA pmb0)).get (i := 0) rfl) rfl rfl ?_
    refine sv (r_fieldAddr Try.underlying37 rfl I3 (by decide) rfl) ?_
    refine s_load1 (v := .int _ _) Try.underlying3 rfl rfl (cellB ((hO84.perm (pmbA (pmbC pmb0))).get (i := 0) rfl) rfl rfl) ?_
    have hR96 := (hS16_0.drop hO84).2.2
    obtain ⟨hO96, e96⟩ := hO84.dropS
    obtain ⟨y52, hy52, h⟩ := bindE h
    refine s_call cf23 rfl (c_claim_State_move ({ Epoch := x0.Epoch, Owner := x0.Owner, Next := x0.Next, Roster := y16.1, Tickets := x0.Tickets } : T_claim_State) x1.Device a16_0 m16_0 c16_0 aP1 mP1 cP1 _ hy52 _ _ hm16_0 hS16_0.le.1 hR96 hm1p hc1p (hR1p.ext (e81.trans (e84.trans e96))) hO96) ?_
    rintro er52 w97 ⟨a52_0, m52_0, c52_0, a52_1, m52_1, c52_1, rfl, hm52_0, hc52_0, hR52_0, hm52_1, hc52_1, hR52_1, hO97, e97⟩
    refine ⟨_, rfl, ?_⟩
    refine sv (r_extract rfl rfl) ?_
    refine sv (r_extract rfl rfl) ?_
    refine s_storeN (vs := #[(.int .i64 y52.1.Epoch), (.int .i64 y52.1.Owner), (.int .i64 y52.1.Next), (.slice a52_0 m52_0 c52_0), (.slice a52_1 m52_1 c52_1)]) I27 rfl rfl rfl hO97 (i := 2) rfl (Nat.le_of_ble_eq_true rfl) (List.all_eq_true.1 rfl) ?_
    intro w98 hO98 e98
    have hO99 : Own w98 ((b2, .cells #[(.int .i64 x0.Epoch), (.int .i64 x0.Owner), (.int .i64 x0.Next), (.slice a16_0 m16_0 c16_0), (.slice aP1 mP1 cP1)] 27 (0, 0)) :: ((b3, .cells #[(.int .i64 x1.Kind), (.int .i64 x1.Device), (.int .i64 x1.Request), (.int .i64 x1.Ticket), (.int .i64 x1.For), (.int .i64 x1.Until), (.int .i64 x1.Now)] 37 (0, 0)) :: ((b4, .cells #[(.int .i64 y52.1.Epoch), (.int .i64 y52.1.Owner), (.int .i64 y52.1.Next), (.slice a52_0 m52_0 c52_0), (.slice a52_1 m52_1 c52_1)] 27 (0, 0)) :: L))) := hO98
    refine sv (r_assign (v := .int _ _) rfl) ?_
    refine s_nil ?_
    refine c_next ?_
    refine c_ret ?_
    refine e_r2 Try.results22 (rv_agg Try.underlying27 rfl I27 rfl (hO99.get (i := 2) rfl) rfl rfl) (rv_tmp (v := .int _ _) rfl) ?_
    obtain ⟨hO101, e101⟩ := hO99.drop1
    obtain ⟨hO102, e102⟩ := hO101.drop1
    obtain ⟨hO103, e103⟩ := hO102.drop1
    rw [← Option.some.inj h]
    exact ⟨a52_0, m52_0, c52_0, a52_1, m52_1, c52_1, rfl, hm52_0, hc52_0, (hR52_0.ext (e98.trans (e101.trans (e102.trans e103)))), hm52_1, hc52_1, (hR52_1.ext (e98.trans (e101.trans (e102.trans e103)))), hO103, (e4.trans (e7.trans (e10.trans (e14.trans (e17.trans (e40.trans (e39.trans (e60.trans (e81.trans (e84.trans (e96.trans (e97.trans (e98.trans (e101.trans (e102.trans e103)))))))))))))))⟩
  replace h := iF (nt hb82) h
  refine c_condF (congrArg Value.bool hb82) ?_
  refine c_skip ?_
  refine x_norm ?_
  refine c_next ?_
  refine c_seq ?_
  refine c_reg ?_
  refine s_loadAll Try.underlying27 rfl I27 rfl ((hO81.perm (pmbA pmb0)).get (i := 0) rfl) rfl rfl ?_
  refine sv (r_fieldAddr Try.underlying37 rfl I3 (by decide) rfl) ?_
  refine s_load1 (v := .int _ _) Try.underlying3 rfl rfl (cellB ((hO81.perm (pmbA (pmbC pmb0))).get (i := 0) rfl) rfl rfl) ?_
  have hR104 := (hS16_0.drop hO81).2.2
  obtain ⟨hO104, e104⟩ := hO81.dropS
  obtain ⟨y52, hy52, h⟩ := bindE h
  refine s_call cf23 rfl (c_claim_State_move ({ Epoch := x0.Epoch, Owner := x0.Owner, Next := x0.Next, Roster := y16.1, Tickets := x0.Tickets } : T_claim_State) x1.Device a16_0 m16_0 c16_0 aP1 mP1 cP1 _ hy52 _ _ hm16_0 hS16_0.le.1 hR104 hm1p hc1p (hR1p.ext (e81.trans e104)) hO104) ?_
  rintro er52 w105 ⟨a52_0, m52_0, c52_0, a52_1, m52_1, c52_1, rfl, hm52_0, hc52_0, hR52_0, hm52_1, hc52_1, hR52_1, hO105, e105⟩
  refine ⟨_, rfl, ?_⟩
  refine sv (r_extract rfl rfl) ?_
  refine sv (r_extract rfl rfl) ?_
  refine s_storeN (vs := #[(.int .i64 y52.1.Epoch), (.int .i64 y52.1.Owner), (.int .i64 y52.1.Next), (.slice a52_0 m52_0 c52_0), (.slice a52_1 m52_1 c52_1)]) I27 rfl rfl rfl hO105 (i := 2) rfl (Nat.le_of_ble_eq_true rfl) (List.all_eq_true.1 rfl) ?_
  intro w106 hO106 e106
  have hO107 : Own w106 ((b2, .cells #[(.int .i64 x0.Epoch), (.int .i64 x0.Owner), (.int .i64 x0.Next), (.slice a16_0 m16_0 c16_0), (.slice aP1 mP1 cP1)] 27 (0, 0)) :: ((b3, .cells #[(.int .i64 x1.Kind), (.int .i64 x1.Device), (.int .i64 x1.Request), (.int .i64 x1.Ticket), (.int .i64 x1.For), (.int .i64 x1.Until), (.int .i64 x1.Now)] 37 (0, 0)) :: ((b4, .cells #[(.int .i64 y52.1.Epoch), (.int .i64 y52.1.Owner), (.int .i64 y52.1.Next), (.slice a52_0 m52_0 c52_0), (.slice a52_1 m52_1 c52_1)] 27 (0, 0)) :: L))) := hO106
  refine sv (r_assign (v := .int _ _) rfl) ?_
  refine s_nil ?_
  refine c_next ?_
  refine c_ret ?_
  refine e_r2 Try.results22 (rv_agg Try.underlying27 rfl I27 rfl (hO107.get (i := 2) rfl) rfl rfl) (rv_tmp (v := .int _ _) rfl) ?_
  obtain ⟨hO109, e109⟩ := hO107.drop1
  obtain ⟨hO110, e110⟩ := hO109.drop1
  obtain ⟨hO111, e111⟩ := hO110.drop1
  rw [← Option.some.inj h]
  exact ⟨a52_0, m52_0, c52_0, a52_1, m52_1, c52_1, rfl, hm52_0, hc52_0, (hR52_0.ext (e106.trans (e109.trans (e110.trans e111)))), hm52_1, hc52_1, (hR52_1.ext (e106.trans (e109.trans (e110.trans e111)))), hO111, (e4.trans (e7.trans (e10.trans (e14.trans (e17.trans (e40.trans (e39.trans (e60.trans (e81.trans (e104.trans (e105.trans (e106.trans (e109.trans (e110.trans e111))))))))))))))⟩
theorem c_claim_Do (x0 : T_claim_State) (x1 : T_claim_Op) (aP0 : Option Addr) (mP0 cP0 : Nat) (aP1 : Option Addr) (mP1 cP1 : Nat)  (r : (T_claim_State × Int)) (h : F_claim_Do x0 x1 = some r) (w : World) (L : Hp) (hm0p : x0.Roster.length = mP0) (hc0p : mP0 ≤ cP0) (hR0p : Rd w L aP0 (fl e_roster_Device x0.Roster)) (hm1p : x0.Tickets.length = mP1) (hc1p : mP1 ≤ cP1) (hR1p : Rd w L aP1 (fl e_ticket_Ticket x0.Tickets)) (hO : Own w L) :
    Calls Try.prog 9 #[(.agg #[(.int .i64 x0.Epoch), (.int .i64 x0.Owner), (.int .i64 x0.Next), (.slice aP0 mP0 cP0), (.slice aP1 mP1 cP1)]), (.agg #[(.int .i64 x1.Kind), (.int .i64 x1.Device), (.int .i64 x1.Request), (.int .i64 x1.Ticket), (.int .i64 x1.For), (.int .i64 x1.Until), (.int .i64 x1.Now)])] w fun en w' => ∃ (ra0 : Option Addr) (rm0 rc0 : Nat) (rS0 : Hp) (ra1 : Option Addr) (rm1 rc1 : Nat) (rS1 : Hp), en = .returned (.tuple #[(.agg #[(.int .i64 r.1.Epoch), (.int .i64 r.1.Owner), (.int .i64 r.1.Next), (.slice ra0 rm0 rc0), (.slice ra1 rm1 rc1)]), (.int .i64 r.2)]) ∧ r.1.Roster.length = rm0 ∧ OwnSl 56 4 ra0 rm0 rc0 (fl e_roster_Device r.1.Roster) rS0 ∧ r.1.Tickets.length = rm1 ∧ OwnSl 59 3 ra1 rm1 rc1 (fl e_ticket_Ticket r.1.Tickets) rS1 ∧ Own w' (rS0 ++ (rS1 ++ L)) ∧ Ext w L w' (rS0 ++ (rS1 ++ L)) := by
  unfold F_claim_Do at h
  refine enter (n := 61) [(.agg #[(.int .i64 x0.Epoch), (.int .i64 x0.Owner), (.int .i64 x0.Next), (.slice aP0 mP0 cP0), (.slice aP1 mP1 cP1)]), (.agg #[(.int .i64 x1.Kind), (.int .i64 x1.Device), (.int .i64 x1.Request), (.int .i64 x1.Ticket), (.int .i64 x1.For), (.int .i64 x1.Until), (.int .i64 x1.Now)])] Try.func9 rfl rfl (Nat.le_of_ble_eq_true rfl) ?_
  refine c_seq ?_
  refine c_reg ?_
  refine s_box (v := (.agg #[(.int .i64 x0.Epoch), (.int .i64 x0.Owner), (.int .i64 x0.Next), (.slice aP0 mP0 cP0), (.slice aP1 mP1 cP1)])) rfl hO ?_
  intro b2 w4 hz2 hl2 hO4 e4
  have hO5 : Own w4 ((b2, .cells #[(.int .i64 x0.Epoch), (.int .i64 x0.Owner), (.int .i64 x0.Next), (.slice aP0 mP0 cP0), (.slice aP1 mP1 cP1)] 27 (0, 0)) :: L) := hO4
  refine s_box (v := (.agg #[(.int .i64 x1.Kind), (.int .i64 x1.Device), (.int .i64 x1.Request), (.int .i64 x1.Ticket), (.int .i64 x1.For), (.int .i64 x1.Until), (.int .i64 x1.Now)])) rfl hO5 ?_
  intro b3 w7 hz3 hl3 hO7 e7
  have hO8 : Own w7 ((b3, .cells #[(.int .i64 x1.Kind), (.int .i64 x1.Device), (.int .i64 x1.Request), (.int .i64 x1.Ticket), (.int .i64 x1.For), (.int .i64 x1.Until), (.int .i64 x1.Now)] 37 (0, 0)) :: ((b2, .cells #[(.int .i64 x0.Epoch), (.int .i64 x0.Owner), (.int .i64 x0.Next), (.slice aP0 mP0 cP0), (.slice aP1 mP1 cP1)] 27 (0, 0)) :: L)) := hO7
  refine s_alloc I27 hO8 ?_
  intro b4 w10 hz4 hl4 hO10 e10
  have hO11 : Own w10 ((b4, .cells #[(.int .i64 0), (.int .i64 0), (.int .i64 0), (.slice none 0 0), (.slice none 0 0)] 27 (0, 0)) :: ((b3, .cells #[(.int .i64 x1.Kind), (.int .i64 x1.Device), (.int .i64 x1.Request), (.int .i64 x1.Ticket), (.int .i64 x1.For), (.int .i64 x1.Until), (.int .i64 x1.Now)] 37 (0, 0)) :: ((b2, .cells #[(.int .i64 x0.Epoch), (.int .i64 x0.Owner), (.int .i64 x0.Next), (.slice aP0 mP0 cP0), (.slice aP1 mP1 cP1)] 27 (0, 0)) :: L))) := hO10
  refine sv (r_assign (v := .int _ _) rfl) ?_
  refine s_nil ?_
  refine c_next ?_
  refine c_seq ?_
  refine c_reg ?_
  refine s_loadAll Try.underlying27 rfl I27 rfl (hO11.get (i := 2) rfl) rfl rfl ?_
  refine s_alloc I27 hO11 ?_
  intro b6 w15 hz6 hl6 hO15 e15
  have hO16 : Own w15 ((b6, .cells #[(.int .i64 0), (.int .i64 0), (.int .i64 0), (.slice none 0 0), (.slice none 0 0)] 27 (0, 0)) :: ((b4, .cells #[(.int .i64 0), (.int .i64 0), (.int .i64 0), (.slice none 0 0), (.slice none 0 0)] 27 (0, 0)) :: ((b3, .cells #[(.int .i64 x1.Kind), (.int .i64 x1.Device), (.int .i64 x1.Request), (.int .i64 x1.Ticket), (.int .i64 x1.For), (.int .i64 x1.Until), (.int .i64 x1.Now)] 37 (0, 0)) :: ((b2, .cells #[(.int .i64 x0.Epoch), (.int .i64 x0.Owner), (.int .i64 x0.Next), (.slice aP0 mP0 cP0), (.slice aP1 mP1 cP1)] 27 (0, 0)) :: L)))) := hO15
  refine s_storeN (vs := #[(.int .i64 x0.Epoch), (.int .i64 x0.Owner), (.int .i64 x0.Next), (.slice aP0 mP0 cP0), (.slice aP1 mP1 cP1)]) I27 rfl rfl rfl hO16 (i := 0) rfl (Nat.le_of_ble_eq_true rfl) (List.all_eq_true.1 rfl) ?_
  intro w18 hO18 e18
  have hO19 : Own w18 ((b6, .cells #[(.int .i64 x0.Epoch), (.int .i64 x0.Owner), (.int .i64 x0.Next), (.slice aP0 mP0 cP0), (.slice aP1 mP1 cP1)] 27 (0, 0)) :: ((b4, .cells #[(.int .i64 0), (.int .i64 0), (.int .i64 0), (.slice none 0 0), (.slice none 0 0)] 27 (0, 0)) :: ((b3, .cells #[(.int .i64 x1.Kind), (.int .i64 x1.Device), (.int .i64 x1.Request), (.int .i64 x1.Ticket), (.int .i64 x1.For), (.int .i64 x1.Until), (.int .i64 x1.Now)] 37 (0, 0)) :: ((b2, .cells #[(.int .i64 x0.Epoch), (.int .i64 x0.Owner), (.int .i64 x0.Next), (.slice aP0 mP0 cP0), (.slice aP1 mP1 cP1)] 27 (0, 0)) :: L)))) := hO18
  refine sv (r_assign (v := .int _ _) rfl) ?_
  refine s_nil ?_
  refine c_next ?_
  have hR0p := (hR0p.ext (e4.trans (e7.trans (e10.trans (e15.trans e18)))))
  have hR1p := (hR1p.ext (e4.trans (e7.trans (e10.trans (e15.trans e18)))))
  obtain ⟨oc63, G63, hG63, h, hr63⟩ := bindG h
  refine c_cutL hO19 (fun Lc f0 g w' => ∃ (xc4_t7 : Int) (xc4_b6 : T_claim_State) (ac4_0 : Option Addr) (mc4_0 cc4_0 : Nat) (ac4_1 : Option Addr) (mc4_1 cc4_1 : Nat), (G63 (xc4_t7, xc4_b6) = some r) ∧ g 2 = (.pointer (some ⟨b2, 0, none⟩)) ∧ g 4 = (.pointer (some ⟨b4, 0, none⟩)) ∧ g 6 = (.pointer (some ⟨b6, 0, none⟩)) ∧ g 7 = (.int .i64 xc4_t7) ∧ xc4_b6.Roster.length = mc4_0 ∧ mc4_0 ≤ cc4_0 ∧ Rd w' ((b2, .cells #[(.int .i64 x0.Epoch), (.int .i64 x0.Owner), (.int .i64 x0.Next), (.slice aP0 mP0 cP0), (.slice aP1 mP1 cP1)] 27 (0, 0)) :: ((b4, .cells #[(.int .i64 0), (.int .i64 0), (.int .i64 0), (.slice none 0 0), (.slice none 0 0)] 27 (0, 0)) :: ((b6, .cells #[(.int .i64 xc4_b6.Epoch), (.int .i64 xc4_b6.Owner), (.int .i64 xc4_b6.Next), (.slice ac4_0 mc4_0 cc4_0), (.slice ac4_1 mc4_1 cc4_1)] 27 (0, 0)) :: L))) ac4_0 (fl e_roster_Device xc4_b6.Roster) ∧ xc4_b6.Tickets.length = mc4_1 ∧ mc4_1 ≤ cc4_1 ∧ Rd w' ((b2, .cells #[(.int .i64 x0.Epoch), (.int .i64 x0.Owner), (.int .i64 x0.Next), (.slice aP0 mP0 cP0), (.slice aP1 mP1 cP1)] 27 (0, 0)) :: ((b4, .cells #[(.int .i64 0), (.int .i64 0), (.int .i64 0), (.slice none 0 0), (.slice none 0 0)] 27 (0, 0)) :: ((b6, .cells #[(.int .i64 xc4_b6.Epoch), (.int .i64 xc4_b6.Owner), (.int .i64 xc4_b6.Next), (.slice ac4_0 mc4_0 cc4_0), (.slice ac4_1 mc4_1 cc4_1)] 27 (0, 0)) :: L))) ac4_1 (fl e_ticket_Ticket xc4_b6.Tickets) ∧ Own w' ((b2, .cells #[(.int .i64 x0.Epoch), (.int .i64 x0.Owner), (.int .i64 x0.Next), (.slice aP0 mP0 cP0), (.slice aP1 mP1 cP1)] 27 (0, 0)) :: ((b4, .cells #[(.int .i64 0), (.int .i64 0), (.int .i64 0), (.slice none 0 0), (.slice none 0 0)] 27 (0, 0)) :: ((b6, .cells #[(.int .i64 xc4_b6.Epoch), (.int .i64 xc4_b6.Owner), (.int .i64 xc4_b6.Next), (.slice ac4_0 mc4_0 cc4_0), (.slice ac4_1 mc4_1 cc4_1)] 27 (0, 0)) :: L))) ∧ Ext w18 Lc w' ((b2, .cells #[(.int .i64 x0.Epoch), (.int .i64 x0.Owner), (.int .i64 x0.Next), (.slice aP0 mP0 cP0), (.slice aP1 mP1 cP1)] 27 (0, 0)) :: ((b4, .cells #[(.int .i64 0), (.int .i64 0), (.int .i64 0), (.slice none 0 0), (.slice none 0 0)] 27 (0, 0)) :: ((b6, .cells #[(.int .i64 xc4_b6.Epoch), (.int .i64 xc4_b6.Owner), (.int .i64 xc4_b6.Next), (.slice ac4_0 mc4_0 cc4_0), (.slice ac4_1 mc4_1 cc4_1)] 27 (0, 0)) :: L)))) ?_ ?_
  · skip
    refine c_seq ?_
    refine c_reg ?_
    refine sv (r_fieldAddr Try.underlying37 rfl I3 (by decide) rfl) ?_
    refine s_load1 (v := .int _ _) Try.underlying3 rfl rfl (cellB (hO19.get (i := 2) rfl) rfl rfl) ?_
    refine s_nil ?_
    refine c_next ?_
    refine c_block ?_
    obtain ⟨oc64, G64, hG64, h, hr64⟩ := bindG h
    refine c_cutL hO19 (fun Lc f0 g w' => ∃ (xc1_t11 : Bool), (G64 xc1_t11 = some oc63) ∧ g 2 = (.pointer (some ⟨b2, 0, none⟩)) ∧ g 3 = (.pointer (some ⟨b3, 0, none⟩)) ∧ g 4 = (.pointer (some ⟨b4, 0, none⟩)) ∧ g 6 = (.pointer (some ⟨b6, 0, none⟩)) ∧ g 7 = (.int .i64 7) ∧ g 10 = (.int .i64 x1.Kind) ∧ g 11 = (.bool xc1_t11) ∧ Own w' ((b2, .cells #[(.int .i64 x0.Epoch), (.int .i64 x0.Owner), (.int .i64 x0.Next), (.slice aP0 mP0 cP0), (.slice aP1 mP1 cP1)] 27 (0, 0)) :: ((b3, .cells #[(.int .i64 x1.Kind), (.int .i64 x1.Device), (.int .i64 x1.Request), (.int .i64 x1.Ticket), (.int .i64 x1.For), (.int .i64 x1.Until), (.int .i64 x1.Now)] 37 (0, 0)) :: ((b4, .cells #[(.int .i64 0), (.int .i64 0), (.int .i64 0), (.slice none 0 0), (.slice none 0 0)] 27 (0, 0)) :: ((b6, .cells #[(.int .i64 x0.Epoch), (.int .i64 x0.Owner), (.int .i64 x0.Next), (.slice aP0 mP0 cP0), (.slice aP1 mP1 cP1)] 27 (0, 0)) :: L)))) ∧ Ext w18 Lc w' ((b2, .cells #[(.int .i64 x0.Epoch), (.int .i64 x0.Owner), (.int .i64 x0.Next), (.slice aP0 mP0 cP0), (.slice aP1 mP1 cP1)] 27 (0, 0)) :: ((b3, .cells #[(.int .i64 x1.Kind), (.int .i64 x1.Device), (.int .i64 x1.Request), (.int .i64 x1.Ticket), (.int .i64 x1.For), (.int .i64 x1.Until), (.int .i64 x1.Now)] 37 (0, 0)) :: ((b4, .cells #[(.int .i64 0), (.int .i64 0), (.int .i64 0), (.slice none 0 0), (.slice none 0 0)] 27 (0, 0)) :: ((b6, .cells #[(.int .i64 x0.Epoch), (.int .i64 x0.Owner), (.int .i64 x0.Next), (.slice aP0 mP0 cP0), (.slice aP1 mP1 cP1)] 27 (0, 0)) :: L))))) ?_ ?_
    · skip
      refine c_reg ?_
      refine c_eql rfl rfl (fun h12 => ?_) (fun h12 => ?_)
      · replace h := iT h12 h
        refine sv (r_assign (v := .bool true) rfl) ?_
        refine s_nil ?_
        refine c_next ?_
        rw [← Option.some.inj h] at hr64
        obtain ⟨hO65, e65⟩ := hO19.permE (pmbC pmb0)
        obtain ⟨hO66, e66⟩ := hO65.permE (pmbC (pmbC pmb0))
        obtain ⟨hO67, e67⟩ := hO66.permE (pmbC (pmbC (pmbC pmb0)))
        exact ⟨_, rfl, true, hr64, rfl, rfl, rfl, rfl, rfl, rfl, rfl, hO67, (e65.trans (e66.trans e67))⟩
      replace h := iF h12 h
      refine sv (r_assign (v := .bool false) rfl) ?_
      refine s_nil ?_
      refine c_next ?_
      rw [← Option.some.inj h] at hr64
      obtain ⟨hO68, e68⟩ := hO19.permE (pmbC pmb0)
      obtain ⟨hO69, e69⟩ := hO68.permE (pmbC (pmbC pmb0))
      obtain ⟨hO70, e70⟩ := hO69.permE (pmbC (pmbC (pmbC pmb0)))
      exact ⟨_, rfl, false, hr64, rfl, rfl, rfl, rfl, rfl, rfl, rfl, hO70, (e68.trans (e69.trans e70))⟩
    intro gg64 w64 hI64
    clear h hr64
    obtain ⟨xc1_t11, h, hsc1_2, hsc1_3, hsc1_4, hsc1_6, hsc1_7, hsc1_10, hsc1_11, hO64, e64⟩ := hI64
    replace h := hG_ hG64 h; clear hG64
    obtain ⟨qq64, rfl⟩ := fr7 hsc1_2 hsc1_3 hsc1_4 hsc1_6 hsc1_7 hsc1_10 hsc1_11
    clear hsc1_2 hsc1_3 hsc1_4 hsc1_6 hsc1_7 hsc1_10 hsc1_11
    rcases Bool.eq_false_or_eq_true (xc1_t11) with hb71 | hb71
    · replace h := iT hb71 h
      refine c_condT (congrArg Value.bool hb71) ?_
      refine c_reg ?_
      refine sv (r_fieldAddr Try.underlying27 rfl I24 (by decide) rfl) ?_
      refine s_load1 (v := .slice _ _ _) Try.underlying24 rfl rfl (cellB (hO64.get (i := 0) rfl) rfl rfl) ?_
      refine sv (r_fieldAddr Try.underlying37 rfl I3 (by decide) rfl) ?_
      refine s_load1 (v := .int _ _) Try.underlying3 rfl rfl (cellB (hO64.get (i := 1) rfl) rfl rfl) ?_
      obtain ⟨y18, hy18, h⟩ := bindE h
      refine s_call cf20 rfl (c_roster_Enrol x0.Roster x1.Device aP0 mP0 cP0 _ hy18 _ _ hm0p hc0p (hR0p.ext e64) hO64) ?_
      rintro er18 w72 ⟨a18_0, m18_0, c18_0, S18_0, rfl, hm18_0, hS18_0, hO72, e72⟩
      refine ⟨_, rfl, ?_⟩
      refine sv (r_move (v := .tuple _) rfl) ?_
      refine sv (r_extract rfl rfl) ?_
      refine sv (r_extract rfl rfl) ?_
      refine sv (r_fieldAddr Try.underlying27 rfl I24 (by decide) rfl) ?_
      obtain ⟨hO74, e74⟩ := hO72.permE (pmbA (pmbC (pmbC (pmbC pmb0))))
      refine s_store1 (v := (.slice a18_0 m18_0 c18_0)) (o := 3) I24 rfl rfl rfl hO74 (i := 0) rfl rfl rfl ?_
      intro w73 hO73 e73
      have hO75 : Own w73 ((b6, .cells #[(.int .i64 x0.Epoch), (.int .i64 x0.Owner), (.int .i64 x0.Next), (.slice a18_0 m18_0 c18_0), (.slice aP1 mP1 cP1)] 27 (0, 0)) :: (S18_0 ++ ((b2, .cells #[(.int .i64 x0.Epoch), (.int .i64 x0.Owner), (.int .i64 x0.Next), (.slice aP0 mP0 cP0), (.slice aP1 mP1 cP1)] 27 (0, 0)) :: ((b3, .cells #[(.int .i64 x1.Kind), (.int .i64 x1.Device), (.int .i64 x1.Request), (.int .i64 x1.Ticket), (.int .i64 x1.For), (.int .i64 x1.Until), (.int .i64 x1.Now)] 37 (0, 0)) :: ((b4, .cells #[(.int .i64 0), (.int .i64 0), (.int .i64 0), (.slice none 0 0), (.slice none 0 0)] 27 (0, 0)) :: L))))) := hO73
      refine sv (r_assign (v := .int _ _) rfl) ?_
      refine s_nil ?_
      refine x_norm ?_
      refine c_next ?_
      rw [← Option.some.inj h] at hr63
      obtain ⟨hO77, e77⟩ := hO75.permE (pmC pm0)
      have hR78 := (hS18_0.drop hO77).2.2
      obtain ⟨hO78, e78⟩ := hO77.dropS
      obtain ⟨hO79, e79⟩ := hO78.permE (pmbC (pmbC pmb0))
      obtain ⟨hO80, e80⟩ := hO79.drop1
      obtain ⟨hO81, e81⟩ := hO80.permE (pmbC (pmbC pmb0))
      obtain ⟨hO82, e82⟩ := hO81.permE (pmbC (pmbC pmb0))
      exact ⟨_, rfl, y18.2, ({ Epoch := x0.Epoch, Owner := x0.Owner, Next := x0.Next, Roster := y18.1, Tickets := x0.Tickets } : T_claim_State), a18_0, m18_0, c18_0, aP1, mP1, cP1, hr63, rfl, rfl, rfl, rfl, hm18_0, hS18_0.le.1, (hR78.ext (e79.trans (e80.trans (e81.trans e82)))), hm1p, hc1p, (hR1p.ext (e64.trans (e72.trans (e74.trans (e73.trans (e77.trans (e78.trans (e79.trans (e80.trans (e81.trans e82)))))))))), hO82, (e64.trans (e72.trans (e74.trans (e73.trans (e77.trans (e78.trans (e79.trans (e80.trans (e81.trans e82)))))))))⟩
    replace h := iF (nt hb71) h
    refine c_condF (congrArg Value.bool hb71) ?_
    have hR0p := (hR0p.ext e64)
    have hR1p := (hR1p.ext e64)
    obtain ⟨oc83, G83, hG83, h, hr83⟩ := bindG h
    refine c_cutL hO64 (fun Lc f0 g w' => ∃ (xc2_t22 : Bool), (G83 xc2_t22 = some oc63) ∧ g 2 = (.pointer (some ⟨b2, 0, none⟩)) ∧ g 3 = (.pointer (some ⟨b3, 0, none⟩)) ∧ g 4 = (.pointer (some ⟨b4, 0, none⟩)) ∧ g 6 = (.pointer (some ⟨b6, 0, none⟩)) ∧ g 7 = (.int .i64 7) ∧ g 10 = (.int .i64 x1.Kind) ∧ g 22 = (.bool xc2_t22) ∧ Own w' ((b2, .cells #[(.int .i64 x0.Epoch), (.int .i64 x0.Owner), (.int .i64 x0.Next), (.slice aP0 mP0 cP0), (.slice aP1 mP1 cP1)] 27 (0, 0)) :: ((b3, .cells #[(.int .i64 x1.Kind), (.int .i64 x1.Device), (.int .i64 x1.Request), (.int .i64 x1.Ticket), (.int .i64 x1.For), (.int .i64 x1.Until), (.int .i64 x1.Now)] 37 (0, 0)) :: ((b4, .cells #[(.int .i64 0), (.int .i64 0), (.int .i64 0), (.slice none 0 0), (.slice none 0 0)] 27 (0, 0)) :: ((b6, .cells #[(.int .i64 x0.Epoch), (.int .i64 x0.Owner), (.int .i64 x0.Next), (.slice aP0 mP0 cP0), (.slice aP1 mP1 cP1)] 27 (0, 0)) :: L)))) ∧ Ext w64 Lc w' ((b2, .cells #[(.int .i64 x0.Epoch), (.int .i64 x0.Owner), (.int .i64 x0.Next), (.slice aP0 mP0 cP0), (.slice aP1 mP1 cP1)] 27 (0, 0)) :: ((b3, .cells #[(.int .i64 x1.Kind), (.int .i64 x1.Device), (.int .i64 x1.Request), (.int .i64 x1.Ticket), (.int .i64 x1.For), (.int .i64 x1.Until), (.int .i64 x1.Now)] 37 (0, 0)) :: ((b4, .cells #[(.int .i64 0), (.int .i64 0), (.int .i64 0), (.slice none 0 0), (.slice none 0 0)] 27 (0, 0)) :: ((b6, .cells #[(.int .i64 x0.Epoch), (.int .i64 x0.Owner), (.int .i64 x0.Next), (.slice aP0 mP0 cP0), (.slice aP1 mP1 cP1)] 27 (0, 0)) :: L))))) ?_ ?_
    · skip
      refine c_reg ?_
      refine c_eql rfl rfl (fun h23 => ?_) (fun h23 => ?_)
      · replace h := iT h23 h
        refine sv (r_assign (v := .bool true) rfl) ?_
        refine s_nil ?_
        refine c_next ?_
        rw [← Option.some.inj h] at hr83
        exact ⟨_, rfl, true, hr83, rfl, rfl, rfl, rfl, rfl, rfl, rfl, hO64, (Ext.refl _ _)⟩
      replace h := iF h23 h
      refine sv (r_assign (v := .bool false) rfl) ?_
      refine s_nil ?_
      refine c_next ?_
      rw [← Option.some.inj h] at hr83
      exact ⟨_, rfl, false, hr83, rfl, rfl, rfl, rfl, rfl, rfl, rfl, hO64, (Ext.refl _ _)⟩
    intro gg83 w83 hI83
    clear h hr83
    obtain ⟨xc2_t22, h, hsc2_2, hsc2_3, hsc2_4, hsc2_6, hsc2_7, hsc2_10, hsc2_22, hO83, e83⟩ := hI83
    replace h := hG_ hG83 h; clear hG83
    obtain ⟨qq83, rfl⟩ := fr7 hsc2_2 hsc2_3 hsc2_4 hsc2_6 hsc2_7 hsc2_10 hsc2_22
    clear hsc2_2 hsc2_3 hsc2_4 hsc2_6 hsc2_7 hsc2_10 hsc2_22
    rcases Bool.eq_false_or_eq_true (xc2_t22) with hb84 | hb84
    · replace h := iT hb84 h
      refine c_condT (congrArg Value.bool hb84) ?_
      refine c_reg ?_
      refine s_loadAll Try.underlying27 rfl I27 rfl (hO83.get (i := 0) rfl) rfl rfl ?_
      refine sv (r_fieldAddr Try.underlying37 rfl I3 (by decide) rfl) ?_
      refine s_load1 (v := .int _ _) Try.underlying3 rfl rfl (cellB (hO83.get (i := 1) rfl) rfl rfl) ?_
      obtain ⟨y28, hy28, h⟩ := bindE h
      refine s_call cf21 rfl (c_claim_State_revoke x0 x1.Device aP0 mP0 cP0 aP1 mP1 cP1 _ hy28 _ _ hm0p hc0p (hR0p.ext e83) hm1p hc1p (hR1p.ext e83) hO83) ?_
      rintro er28 w85 ⟨a28_0, m28_0, c28_0, a28_1, m28_1, c28_1, rfl, hm28_0, hc28_0, hR28_0, hm28_1, hc28_1, hR28_1, hO85, e85⟩
      refine ⟨_, rfl, ?_⟩
      refine sv (r_move (v := .tuple _) rfl) ?_
      refine sv (r_extract rfl rfl) ?_
      refine sv (r_extract rfl rfl) ?_
      refine s_storeN (vs := #[(.int .i64 y28.1.Epoch), (.int .i64 y28.1.Owner), (.int .i64 y28.1.Next), (.slice a28_0 m28_0 c28_0), (.slice a28_1 m28_1 c28_1)]) I27 rfl rfl rfl hO85 (i := 3) rfl (Nat.le_of_ble_eq_true rfl) (List.all_eq_true.1 rfl) ?_
      intro w86 hO86 e86
      have hO87 : Own w86 ((b2, .cells #[(.int .i64 x0.Epoch), (.int .i64 x0.Owner), (.int .i64 x0.Next), (.slice aP0 mP0 cP0), (.slice aP1 mP1 cP1)] 27 (0, 0)) :: ((b3, .cells #[(.int .i64 x1.Kind), (.int .i64 x1.Device), (.int .i64 x1.Request), (.int .i64 x1.Ticket), (.int .i64 x1.For), (.int .i64 x1.Until), (.int .i64 x1.Now)] 37 (0, 0)) :: ((b4, .cells #[(.int .i64 0), (.int .i64 0), (.int .i64 0), (.slice none 0 0), (.slice none 0 0)] 27 (0, 0)) :: ((b6, .cells #[(.int .i64 y28.1.Epoch), (.int .i64 y28.1.Owner), (.int .i64 y28.1.Next), (.slice a28_0 m28_0 c28_0), (.slice a28_1 m28_1 c28_1)] 27 (0, 0)) :: L)))) := hO86
      refine sv (r_assign (v := .int _ _) rfl) ?_
      refine s_nil ?_
      refine x_norm ?_
      refine c_next ?_
      rw [← Option.some.inj h] at hr63
      obtain ⟨hO89, e89⟩ := hO87.permE (pmbC pmb0)
      obtain ⟨hO90, e90⟩ := hO89.drop1
      exact ⟨_, rfl, y28.2, ({ Epoch := y28.1.Epoch, Owner := y28.1.Owner, Next := y28.1.Next, Roster := y28.1.Roster, Tickets := y28.1.Tickets } : T_claim_State), a28_0, m28_0, c28_0, a28_1, m28_1, c28_1, hr63, rfl, rfl, rfl, rfl, hm28_0, hc28_0, (hR28_0.ext (e86.trans (e89.trans e90))), hm28_1, hc28_1, (hR28_1.ext (e86.trans (e89.trans e90))), hO90, (e64.trans (e83.trans (e85.trans (e86.trans (e89.trans e90)))))⟩
    replace h := iF (nt hb84) h
    refine c_condF (congrArg Value.bool hb84) ?_
    have hR0p := (hR0p.ext e83)
    have hR1p := (hR1p.ext e83)
    obtain ⟨oc91, G91, hG91, h, hr91⟩ := bindG h
    refine c_cutL hO83 (fun Lc f0 g w' => ∃ (xc3_t31 : Bool), (G91 xc3_t31 = some oc63) ∧ g 2 = (.pointer (some ⟨b2, 0, none⟩)) ∧ g 3 = (.pointer (some ⟨b3, 0, none⟩)) ∧ g 4 = (.pointer (some ⟨b4, 0, none⟩)) ∧ g 6 = (.pointer (some ⟨b6, 0, none⟩)) ∧ g 7 = (.int .i64 7) ∧ g 10 = (.int .i64 x1.Kind) ∧ g 31 = (.bool xc3_t31) ∧ Own w' ((b2, .cells #[(.int .i64 x0.Epoch), (.int .i64 x0.Owner), (.int .i64 x0.Next), (.slice aP0 mP0 cP0), (.slice aP1 mP1 cP1)] 27 (0, 0)) :: ((b3, .cells #[(.int .i64 x1.Kind), (.int .i64 x1.Device), (.int .i64 x1.Request), (.int .i64 x1.Ticket), (.int .i64 x1.For), (.int .i64 x1.Until), (.int .i64 x1.Now)] 37 (0, 0)) :: ((b4, .cells #[(.int .i64 0), (.int .i64 0), (.int .i64 0), (.slice none 0 0), (.slice none 0 0)] 27 (0, 0)) :: ((b6, .cells #[(.int .i64 x0.Epoch), (.int .i64 x0.Owner), (.int .i64 x0.Next), (.slice aP0 mP0 cP0), (.slice aP1 mP1 cP1)] 27 (0, 0)) :: L)))) ∧ Ext w83 Lc w' ((b2, .cells #[(.int .i64 x0.Epoch), (.int .i64 x0.Owner), (.int .i64 x0.Next), (.slice aP0 mP0 cP0), (.slice aP1 mP1 cP1)] 27 (0, 0)) :: ((b3, .cells #[(.int .i64 x1.Kind), (.int .i64 x1.Device), (.int .i64 x1.Request), (.int .i64 x1.Ticket), (.int .i64 x1.For), (.int .i64 x1.Until), (.int .i64 x1.Now)] 37 (0, 0)) :: ((b4, .cells #[(.int .i64 0), (.int .i64 0), (.int .i64 0), (.slice none 0 0), (.slice none 0 0)] 27 (0, 0)) :: ((b6, .cells #[(.int .i64 x0.Epoch), (.int .i64 x0.Owner), (.int .i64 x0.Next), (.slice aP0 mP0 cP0), (.slice aP1 mP1 cP1)] 27 (0, 0)) :: L))))) ?_ ?_
    · skip
      refine c_seq ?_
      refine c_reg ?_
      refine c_eql rfl rfl (fun h32 => ?_) (fun h32 => ?_)
      · replace h := iT h32 h
        refine sv (r_assign (v := .bool true) rfl) ?_
        refine s_nil ?_
        refine c_next ?_
        refine c_condT rfl ?_
        refine c_skip ?_
        refine c_next ?_
        rw [← Option.some.inj h] at hr91
        exact ⟨_, rfl, true, hr91, rfl, rfl, rfl, rfl, rfl, rfl, rfl, hO83, (Ext.refl _ _)⟩
      replace h := iF h32 h
      refine sv (r_assign (v := .bool false) rfl) ?_
      refine s_nil ?_
      refine c_next ?_
      refine c_condF rfl ?_
      refine c_seq ?_
      refine c_reg ?_
      refine c_eql rfl rfl (fun h33 => ?_) (fun h33 => ?_)
      · replace h := iT h33 h
        refine sv (r_assign (v := .bool true) rfl) ?_
        refine s_nil ?_
        refine c_next ?_
        refine c_condT rfl ?_
        refine c_skip ?_
        refine c_next ?_
        rw [← Option.some.inj h] at hr91
        exact ⟨_, rfl, true, hr91, rfl, rfl, rfl, rfl, rfl, rfl, rfl, hO83, (Ext.refl _ _)⟩
      replace h := iF h33 h
      refine sv (r_assign (v := .bool false) rfl) ?_
      refine s_nil ?_
      refine c_next ?_
      refine c_condF rfl ?_
      refine c_reg ?_
      refine c_eql rfl rfl (fun h34 => ?_) (fun h34 => ?_)
      · replace h := iT h34 h
        refine sv (r_assign (v := .bool true) rfl) ?_
        refine s_nil ?_
        refine c_next ?_
        rw [← Option.some.inj h] at hr91
        exact ⟨_, rfl, true, hr91, rfl, rfl, rfl, rfl, rfl, rfl, rfl, hO83, (Ext.refl _ _)⟩
      replace h := iF h34 h
      refine sv (r_assign (v := .bool false) rfl) ?_
      refine s_nil ?_
      refine c_next ?_
      rw [← Option.some.inj h] at hr91
      exact ⟨_, rfl, false, hr91, rfl, rfl, rfl, rfl, rfl, rfl, rfl, hO83, (Ext.refl _ _)⟩
    intro gg91 w91 hI91
    clear h hr91
    obtain ⟨xc3_t31, h, hsc3_2, hsc3_3, hsc3_4, hsc3_6, hsc3_7, hsc3_10, hsc3_31, hO91, e91⟩ := hI91
    replace h := hG_ hG91 h; clear hG91
    obtain ⟨qq91, rfl⟩ := fr7 hsc3_2 hsc3_3 hsc3_4 hsc3_6 hsc3_7 hsc3_10 hsc3_31
    clear hsc3_2 hsc3_3 hsc3_4 hsc3_6 hsc3_7 hsc3_10 hsc3_31
    rcases Bool.eq_false_or_eq_true (xc3_t31) with hb92 | hb92
    · replace h := iT hb92 h
      refine c_condT (congrArg Value.bool hb92) ?_
      refine c_reg ?_
      refine s_loadAll Try.underlying27 rfl I27 rfl (hO91.get (i := 0) rfl) rfl rfl ?_
      refine s_loadAll Try.underlying37 rfl I37 rfl (hO91.get (i := 1) rfl) rfl rfl ?_
      obtain ⟨y38, hy38, h⟩ := bindE h
      refine s_call cf22 rfl (c_claim_State_asked x0 x1 aP0 mP0 cP0 aP1 mP1 cP1 _ hy38 _ _ hm0p hc0p (hR0p.ext e91) hm1p hc1p (hR1p.ext e91) hO91) ?_
      rintro er38 w93 ⟨a38_0, m38_0, c38_0, a38_1, m38_1, c38_1, rfl, hm38_0, hc38_0, hR38_0, hm38_1, hc38_1, hR38_1, hO93, e93⟩
      refine ⟨_, rfl, ?_⟩
      refine sv (r_move (v := .tuple _) rfl) ?_
      refine sv (r_extract rfl rfl) ?_
      refine sv (r_extract rfl rfl) ?_
      refine s_storeN (vs := #[(.int .i64 y38.1.Epoch), (.int .i64 y38.1.Owner), (.int .i64 y38.1.Next), (.slice a38_0 m38_0 c38_0), (.slice a38_1 m38_1 c38_1)]) I27 rfl rfl rfl hO93 (i := 3) rfl (Nat.le_of_ble_eq_true rfl) (List.all_eq_true.1 rfl) ?_
      intro w94 hO94 e94
      have hO95 : Own w94 ((b2, .cells #[(.int .i64 x0.Epoch), (.int .i64 x0.Owner), (.int .i64 x0.Next), (.slice aP0 mP0 cP0), (.slice aP1 mP1 cP1)] 27 (0, 0)) :: ((b3, .cells #[(.int .i64 x1.Kind), (.int .i64 x1.Device), (.int .i64 x1.Request), (.int .i64 x1.Ticket), (.int .i64 x1.For), (.int .i64 x1.Until), (.int .i64 x1.Now)] 37 (0, 0)) :: ((b4, .cells #[(.int .i64 0), (.int .i64 0), (.int .i64 0), (.slice none 0 0), (.slice none 0 0)] 27 (0, 0)) :: ((b6, .cells #[(.int .i64 y38.1.Epoch), (.int .i64 y38.1.Owner), (.int .i64 y38.1.Next), (.slice a38_0 m38_0 c38_0), (.slice a38_1 m38_1 c38_1)] 27 (0, 0)) :: L)))) := hO94
      refine sv (r_assign (v := .int _ _) rfl) ?_
      refine s_nil ?_
      refine x_norm ?_
      refine c_next ?_
      rw [← Option.some.inj h] at hr63
      obtain ⟨hO97, e97⟩ := hO95.permE (pmbC pmb0)
      obtain ⟨hO98, e98⟩ := hO97.drop1
      exact ⟨_, rfl, y38.2, ({ Epoch := y38.1.Epoch, Owner := y38.1.Owner, Next := y38.1.Next, Roster := y38.1.Roster, Tickets := y38.1.Tickets } : T_claim_State), a38_0, m38_0, c38_0, a38_1, m38_1, c38_1, hr63, rfl, rfl, rfl, rfl, hm38_0, hc38_0, (hR38_0.ext (e94.trans (e97.trans e98))), hm38_1, hc38_1, (hR38_1.ext (e94.trans (e97.trans e98))), hO98, (e64.trans (e83.trans (e91.trans (e93.trans (e94.trans (e97.trans e98))))))⟩
    replace h := iF (nt hb92) h
    refine c_condF (congrArg Value.bool hb92) ?_
    refine c_seq ?_
    refine c_reg ?_
    refine c_eql rfl rfl (fun h42 => ?_) (fun h42 => ?_)
    · replace h := iT h42 h
      refine sv (r_assign (v := .bool true) rfl) ?_
      refine s_nil ?_
      refine c_next ?_
      refine c_condT rfl ?_
      refine c_reg ?_
      refine s_loadAll Try.underlying27 rfl I27 rfl (hO91.get (i := 0) rfl) rfl rfl ?_
      obtain ⟨y45, hy45, h⟩ := bindE h
      refine s_call cf23 rfl (c_claim_State_move x0 (-1) aP0 mP0 cP0 aP1 mP1 cP1 _ hy45 _ _ hm0p hc0p (hR0p.ext e91) hm1p hc1p (hR1p.ext e91) hO91) ?_
      rintro er45 w99 ⟨a45_0, m45_0, c45_0, a45_1, m45_1, c45_1, rfl, hm45_0, hc45_0, hR45_0, hm45_1, hc45_1, hR45_1, hO99, e99⟩
      refine ⟨_, rfl, ?_⟩
      refine sv (r_move (v := .tuple _) rfl) ?_
      refine sv (r_extract rfl rfl) ?_
      refine sv (r_extract rfl rfl) ?_
      refine s_storeN (vs := #[(.int .i64 y45.1.Epoch), (.int .i64 y45.1.Owner), (.int .i64 y45.1.Next), (.slice a45_0 m45_0 c45_0), (.slice a45_1 m45_1 c45_1)]) I27 rfl rfl rfl hO99 (i := 3) rfl (Nat.le_of_ble_eq_true rfl) (List.all_eq_true.1 rfl) ?_
      intro w100 hO100 e100
      have hO101 : Own w100 ((b2, .cells #[(.int .i64 x0.Epoch), (.int .i64 x0.Owner), (.int .i64 x0.Next), (.slice aP0 mP0 cP0), (.slice aP1 mP1 cP1)] 27 (0, 0)) :: ((b3, .cells #[(.int .i64 x1.Kind), (.int .i64 x1.Device), (.int .i64 x1.Request), (.int .i64 x1.Ticket), (.int .i64 x1.For), (.int .i64 x1.Until), (.int .i64 x1.Now)] 37 (0, 0)) :: ((b4, .cells #[(.int .i64 0), (.int .i64 0), (.int .i64 0), (.slice none 0 0), (.slice none 0 0)] 27 (0, 0)) :: ((b6, .cells #[(.int .i64 y45.1.Epoch), (.int .i64 y45.1.Owner), (.int .i64 y45.1.Next), (.slice a45_0 m45_0 c45_0), (.slice a45_1 m45_1 c45_1)] 27 (0, 0)) :: L)))) := hO100
      refine sv (r_assign (v := .int _ _) rfl) ?_
      refine s_nil ?_
      refine x_norm ?_
      refine c_next ?_
      rw [← Option.some.inj h] at hr63
      obtain ⟨hO103, e103⟩ := hO101.permE (pmbC pmb0)
      obtain ⟨hO104, e104⟩ := hO103.drop1
      exact ⟨_, rfl, y45.2, ({ Epoch := y45.1.Epoch, Owner := y45.1.Owner, Next := y45.1.Next, Roster := y45.1.Roster, Tickets := y45.1.Tickets } : T_claim_State), a45_0, m45_0, c45_0, a45_1, m45_1, c45_1, hr63, rfl, rfl, rfl, rfl, hm45_0, hc45_0, (hR45_0.ext (e100.trans (e103.trans e104))), hm45_1, hc45_1, (hR45_1.ext (e100.trans (e103.trans e104))), hO104, (e64.trans (e83.trans (e91.trans (e99.trans (e100.trans (e103.trans e104))))))⟩
    replace h := iF h42 h
    refine sv (r_assign (v := .bool false) rfl) ?_
    refine s_nil ?_
    refine c_next ?_
    refine c_condF rfl ?_
    refine c_skip ?_
    refine x_norm ?_
    refine c_next ?_
    rw [← Option.some.inj h] at hr63
    obtain ⟨hO105, e105⟩ := hO91.permE (pmbC pmb0)
    obtain ⟨hO106, e106⟩ := hO105.drop1
    exact ⟨_, rfl, 7, x0, aP0, mP0, cP0, aP1, mP1, cP1, hr63, rfl, rfl, rfl, rfl, hm0p, hc0p, (hR0p.ext (e91.trans (e105.trans e106))), hm1p, hc1p, (hR1p.ext (e91.trans (e105.trans e106))), hO106, (e64.trans (e83.trans (e91.trans (e105.trans e106))))⟩
  intro gg63 w63 hI63
  clear h hr63
  obtain ⟨xc4_t7, xc4_b6, ac4_0, mc4_0, cc4_0, ac4_1, mc4_1, cc4_1, h, hsc4_2, hsc4_4, hsc4_6, hsc4_7, hmc4_0, hcc4_0, hRc4_0, hmc4_1, hcc4_1, hRc4_1, hO63, e63⟩ := hI63
  replace h := hG_ hG63 h; clear hG63
  obtain ⟨qq63, rfl⟩ := fr4 hsc4_2 hsc4_4 hsc4_6 hsc4_7
  clear hsc4_2 hsc4_4 hsc4_6 hsc4_7
  refine c_seq ?_
  refine c_seq ?_
  refine c_reg ?_
  refine sv (r_move (v := .int _ _) rfl) ?_
  refine c_neq rfl rfl (fun h49 => ?_) (fun h49 => ?_)
  · replace h := iT h49 h
    refine s_nil ?_
    refine c_next ?_
    refine c_condT rfl ?_
    refine c_reg ?_
    refine s_loadAll Try.underlying27 rfl I27 rfl (hO63.get (i := 0) rfl) rfl rfl ?_
    refine s_storeN (vs := #[(.int .i64 x0.Epoch), (.int .i64 x0.Owner), (.int .i64 x0.Next), (.slice aP0 mP0 cP0), (.slice aP1 mP1 cP1)]) I27 rfl rfl rfl hO63 (i := 2) rfl (Nat.le_of_ble_eq_true rfl) (List.all_eq_true.1 rfl) ?_
    intro w108 hO108 e108
    have hO109 : Own w108 ((b2, .cells #[(.int .i64 x0.Epoch), (.int .i64 x0.Owner), (.int .i64 x0.Next), (.slice aP0 mP0 cP0), (.slice aP1 mP1 cP1)] 27 (0, 0)) :: ((b4, .cells #[(.int .i64 0), (.int .i64 0), (.int .i64 0), (.slice none 0 0), (.slice none 0 0)] 27 (0, 0)) :: ((b6, .cells #[(.int .i64 x0.Epoch), (.int .i64 x0.Owner), (.int .i64 x0.Next), (.slice aP0 mP0 cP0), (.slice aP1 mP1 cP1)] 27 (0, 0)) :: L))) := hO108
    refine s_nil ?_
    refine c_next ?_
    refine c_seq ?_
    have hR0p := (hR0p.ext (e63.trans e108))
    have hR1p := (hR1p.ext (e63.trans e108))
    refine d_startL hO109 hO109.t.t 7 (by kernel_rfl) (pk_then pk_body) ?_
    intro hP112 wd112 hK112 hO111 e111
    refine dT (i := 0) (listed' := #[I_,O_,O_,O_,O_,O_,O_,O_,O_,O_]) rfl hP112 hK112 (fun wS hS => (r_fieldAddr Try.underlying27 rfl I24 (by decide) rfl)) ?_
    refine dT (i := 1) (listed' := #[I_,I_,O_,O_,O_,O_,O_,O_,O_,O_]) rfl hP112 hK112 (fun wS hS => (r_load1 (v := .slice _ _ _) Try.underlying24 rfl rfl (cellB (hS.own.get (i := 0) rfl) rfl rfl))) ?_
    refine dT (i := 3) (listed' := #[I_,I_,O_,I_,O_,O_,O_,O_,O_,O_]) rfl hP112 hK112 (fun wS hS => (r_fieldAddr Try.underlying27 rfl I25 (by decide) rfl)) ?_
    refine dT (i := 4) (listed' := #[I_,I_,O_,I_,I_,O_,O_,O_,O_,O_]) rfl hP112 hK112 (fun wS hS => (r_load1 (v := .slice _ _ _) Try.underlying25 rfl rfl (cellB (hS.own.get (i := 0) rfl) rfl rfl))) ?_
    refine d1 (i := 2) (listed' := #[I_,I_,I_,I_,I_,O_,O_,O_,O_,O_]) ?_
    obtain ⟨y53, hy53, h⟩ := bindE h
    refine s_call cf24 rfl (c_slices_Clone_roster_Device x0.Roster aP0 mP0 cP0 _ hy53 _ _ hm0p hc0p (hR0p.ext e111) hO111) ?_
    rintro er53 w113 ⟨a53_0, m53_0, c53_0, S53_0, rfl, hm53_0, hS53_0, hO113, e113⟩
    refine ⟨_, rfl, ?_⟩
    have hK114 : Kept w108 _ _ w113 := Kept.to (e111.trans e113) hO113.r.t.t
    refine d_back hK114 ?_
    refine dT (i := 6) (listed' := #[I_,I_,I_,I_,I_,O_,I_,O_,O_,O_]) rfl hP112 hK114 (fun wS hS => (r_fieldAddr Try.underlying27 rfl I24 (by decide) rfl)) ?_
    refine d1 (i := 5) (listed' := #[I_,I_,I_,I_,I_,I_,I_,O_,O_,O_]) ?_
    obtain ⟨y56, hy56, h⟩ := bindE h
    refine s_call cf25 rfl (c_slices_Clone_ticket_Ticket x0.Tickets aP1 mP1 cP1 _ hy56 _ _ hm1p hc1p (hR1p.ext (e111.trans e113)) hO113) ?_
    rintro er56 w115 ⟨a56_0, m56_0, c56_0, S56_0, rfl, hm56_0, hS56_0, hO115, e115⟩
    refine ⟨_, rfl, ?_⟩
    have hK116 : Kept w108 _ _ w115 := Kept.to (e111.trans (e113.trans e115)) hO115.r.r.t.t
    refine d_back hK116 ?_
    refine d1 (i := 7) (listed' := #[I_,I_,I_,I_,I_,I_,I_,I_,O_,O_]) ?_
    obtain ⟨hO118, e118⟩ := hO115.permE (pmbA (pmbA (pmbC (pmbC pmb0))))
    refine s_store1 (v := (.slice a53_0 m53_0 c53_0)) (o := 3) I24 rfl rfl rfl hO118 (i := 0) rfl rfl rfl ?_
    intro w117 hO117 e117
    have hO119 : Own w117 ((b6, .cells #[(.int .i64 x0.Epoch), (.int .i64 x0.Owner), (.int .i64 x0.Next), (.slice a53_0 m53_0 c53_0), (.slice aP1 mP1 cP1)] 27 (0, 0)) :: (S56_0 ++ (S53_0 ++ ((b2, .cells #[(.int .i64 x0.Epoch), (.int .i64 x0.Owner), (.int .i64 x0.Next), (.slice aP0 mP0 cP0), (.slice aP1 mP1 cP1)] 27 (0, 0)) :: ((b4, .cells #[(.int .i64 0), (.int .i64 0), (.int .i64 0), (.slice none 0 0), (.slice none 0 0)] 27 (0, 0)) :: L))))) := hO117
    refine d_tail rfl ?_
    refine d1 (i := 8) (listed' := #[I_,I_,I_,I_,I_,I_,I_,I_,I_,O_]) ?_
    refine sv (r_fieldAddr Try.underlying27 rfl I25 (by decide) rfl) ?_
    refine d_tail rfl ?_
    refine d1 (i := 9) (listed' := #[I_,I_,I_,I_,I_,I_,I_,I_,I_,I_]) ?_
    refine s_store1 (v := (.slice a56_0 m56_0 c56_0)) (o := 4) I25 rfl rfl rfl hO119 (i := 0) rfl rfl rfl ?_
    intro w121 hO121 e121
    have hO122 : Own w121 ((b6, .cells #[(.int .i64 x0.Epoch), (.int .i64 x0.Owner), (.int .i64 x0.Next), (.slice a53_0 m53_0 c53_0), (.slice a56_0 m56_0 c56_0)] 27 (0, 0)) :: (S56_0 ++ (S53_0 ++ ((b2, .cells #[(.int .i64 x0.Epoch), (.int .i64 x0.Owner), (.int .i64 x0.Next), (.slice aP0 mP0 cP0), (.slice aP1 mP1 cP1)] 27 (0, 0)) :: ((b4, .cells #[(.int .i64 0), (.int .i64 0), (.int .i64 0), (.slice none 0 0), (.slice none 0 0)] 27 (0, 0)) :: L))))) := hO121
    refine d_tail rfl ?_
    refine d_done (by kernel_rfl) ?_
    refine c_next ?_
    refine c_seq ?_
    refine c_reg ?_
    refine s_loadAll Try.underlying27 rfl I27 rfl (hO122.get (i := 0) rfl) rfl rfl ?_
    refine sv (r_move (v := .int _ _) rfl) ?_
    obtain ⟨hO125, e125⟩ := hO122.permE (pmbC (pmbA (pmbA (pmbC pmb0))))
    refine s_storeN (vs := #[(.int .i64 x0.Epoch), (.int .i64 x0.Owner), (.int .i64 x0.Next), (.slice a53_0 m53_0 c53_0), (.slice a56_0 m56_0 c56_0)]) I27 rfl rfl rfl hO125 (i := 0) rfl (Nat.le_of_ble_eq_true rfl) (List.all_eq_true.1 rfl) ?_
    intro w124 hO124 e124
    have hO126 : Own w124 ((b4, .cells #[(.int .i64 x0.Epoch), (.int .i64 x0.Owner), (.int .i64 x0.Next), (.slice a53_0 m53_0 c53_0), (.slice a56_0 m56_0 c56_0)] 27 (0, 0)) :: ((b6, .cells #[(.int .i64 x0.Epoch), (.int .i64 x0.Owner), (.int .i64 x0.Next), (.slice a53_0 m53_0 c53_0), (.slice a56_0 m56_0 c56_0)] 27 (0, 0)) :: (S56_0 ++ (S53_0 ++ ((b2, .cells #[(.int .i64 x0.Epoch), (.int .i64 x0.Owner), (.int .i64 x0.Next), (.slice aP0 mP0 cP0), (.slice aP1 mP1 cP1)] 27 (0, 0)) :: L))))) := hO124
    refine sv (r_assign (v := .int _ _) rfl) ?_
    refine s_nil ?_
    refine c_next ?_
    refine c_ret ?_
    refine e_r2 Try.results9 (rv_agg Try.underlying27 rfl I27 rfl (hO126.get (i := 0) rfl) rfl rfl) (rv_tmp (v := .int _ _) rfl) ?_
    obtain ⟨hO128, e128⟩ := hO126.drop1
    obtain ⟨hO129, e129⟩ := hO128.drop1
    obtain ⟨hO130, e130⟩ := hO129.permE (pmbA (pmbA pmb0))
    obtain ⟨hO131, e131⟩ := hO130.drop1
    obtain ⟨hO132, e132⟩ := hO131.permE (pmA pm0)
    rw [← Option.some.inj h]
    exact ⟨a53_0, m53_0, c53_0, S53_0, a56_0, m56_0, c56_0, S56_0, rfl, hm53_0, hS53_0, hm56_0, hS56_0, hO132, (e4.trans (e7.trans (e10.trans (e15.trans (e18.trans (e63.trans (e108.trans (e111.trans (e113.trans (e115.trans (e118.trans (e117.trans (e121.trans (e125.trans (e124.trans (e128.trans (e129.trans (e130.trans (e131.trans e132)))))))))))))))))))⟩
  replace h := iF (Classical.not_not.2 h49) h
  refine s_nil ?_
  refine c_next ?_
  refine c_condF rfl ?_
  refine c_skip ?_
  refine c_next ?_
  refine c_seq ?_
  have hR0p := (hR0p.ext e63)
  have hR1p := (hR1p.ext e63)
  refine d_startL hO63 hO63.t.t 7 (by kernel_rfl) (pk_then pk_body) ?_
  intro hP134 wd134 hK134 hO133 e133
  refine dT (i := 0) (listed' := #[I_,O_,O_,O_,O_,O_,O_,O_,O_,O_]) rfl hP134 hK134 (fun wS hS => (r_fieldAddr Try.underlying27 rfl I24 (by decide) rfl)) ?_
  refine dT (i := 1) (listed' := #[I_,I_,O_,O_,O_,O_,O_,O_,O_,O_]) rfl hP134 hK134 (fun wS hS => (r_load1 (v := .slice _ _ _) Try.underlying24 rfl rfl (cellB (hS.own.get (i := 0) rfl) rfl rfl))) ?_
  refine dT (i := 3) (listed' := #[I_,I_,O_,I_,O_,O_,O_,O_,O_,O_]) rfl hP134 hK134 (fun wS hS => (r_fieldAddr Try.underlying27 rfl I25 (by decide) rfl)) ?_
  refine dT (i := 4) (listed' := #[I_,I_,O_,I_,I_,O_,O_,O_,O_,O_]) rfl hP134 hK134 (fun wS hS => (r_load1 (v := .slice _ _ _) Try.underlying25 rfl rfl (cellB (hS.own.get (i := 0) rfl) rfl rfl))) ?_
  refine d1 (i := 2) (listed' := #[I_,I_,I_,I_,I_,O_,O_,O_,O_,O_]) ?_
  obtain ⟨y53, hy53, h⟩ := bindE h
  refine s_call cf24 rfl (c_slices_Clone_roster_Device xc4_b6.Roster ac4_0 mc4_0 cc4_0 _ hy53 _ _ hmc4_0 hcc4_0 (hRc4_0.ext e133) hO133) ?_
  rintro er53 w135 ⟨a53_0, m53_0, c53_0, S53_0, rfl, hm53_0, hS53_0, hO135, e135⟩
  refine ⟨_, rfl, ?_⟩
  have hK136 : Kept w63 _ _ w135 := Kept.to (e133.trans e135) hO135.r.t.t
  refine d_back hK136 ?_
  refine dT (i := 6) (listed' := #[I_,I_,I_,I_,I_,O_,I_,O_,O_,O_]) rfl hP134 hK136 (fun wS hS => (r_fieldAddr Try.underlying27 rfl I24 (by decide) rfl)) ?_
  refine d1 (i := 5) (listed' := #[I_,I_,I_,I_,I_,I_,I_,O_,O_,O_]) ?_
  obtain ⟨y56, hy56, h⟩ := bindE h
  refine s_call cf25 rfl (c_slices_Clone_ticket_Ticket xc4_b6.Tickets ac4_1 mc4_1 cc4_1 _ hy56 _ _ hmc4_1 hcc4_1 (hRc4_1.ext (e133.trans e135)) hO135) ?_
  rintro er56 w137 ⟨a56_0, m56_0, c56_0, S56_0, rfl, hm56_0, hS56_0, hO137, e137⟩
  refine ⟨_, rfl, ?_⟩
  have hK138 : Kept w63 _ _ w137 := Kept.to (e133.trans (e135.trans e137)) hO137.r.r.t.t
  refine d_back hK138 ?_
  refine d1 (i := 7) (listed' := #[I_,I_,I_,I_,I_,I_,I_,I_,O_,O_]) ?_
  obtain ⟨hO140, e140⟩ := hO137.permE (pmbA (pmbA (pmbC (pmbC pmb0))))
  refine s_store1 (v := (.slice a53_0 m53_0 c53_0)) (o := 3) I24 rfl rfl rfl hO140 (i := 0) rfl rfl rfl ?_
  intro w139 hO139 e139
  have hO141 : Own w139 ((b6, .cells #[(.int .i64 xc4_b6.Epoch), (.int .i64 xc4_b6.Owner), (.int .i64 xc4_b6.Next), (.slice a53_0 m53_0 c53_0), (.slice ac4_1 mc4_1 cc4_1)] 27 (0, 0)) :: (S56_0 ++ (S53_0 ++ ((b2, .cells #[(.int .i64 x0.Epoch), (.int .i64 x0.Owner), (.int .i64 x0.Next), (.slice aP0 mP0 cP0), (.slice aP1 mP1 cP1)] 27 (0, 0)) :: ((b4, .cells #[(.int .i64 0), (.int .i64 0), (.int .i64 0), (.slice none 0 0), (.slice none 0 0)] 27 (0, 0)) :: L))))) := hO139
  refine d_tail rfl ?_
  refine d1 (i := 8) (listed' := #[I_,I_,I_,I_,I_,I_,I_,I_,I_,O_]) ?_
  refine sv (r_fieldAddr Try.underlying27 rfl I25 (by decide) rfl) ?_
  refine d_tail rfl ?_
  refine d1 (i := 9) (listed' := #[I_,I_,I_,I_,I_,I_,I_,I_,I_,I_]) ?_
  refine s_store1 (v := (.slice a56_0 m56_0 c56_0)) (o := 4) I25 rfl rfl rfl hO141 (i := 0) rfl rfl rfl ?_
  intro w143 hO143 e143
  have hO144 : Own w143 ((b6, .cells #[(.int .i64 xc4_b6.Epoch), (.int .i64 xc4_b6.Owner), (.int .i64 xc4_b6.Next), (.slice a53_0 m53_0 c53_0), (.slice a56_0 m56_0 c56_0)] 27 (0, 0)) :: (S56_0 ++ (S53_0 ++ ((b2, .cells #[(.int .i64 x0.Epoch), (.int .i64 x0.Owner), (.int .i64 x0.Next), (.slice aP0 mP0 cP0), (.slice aP1 mP1 cP1)] 27 (0, 0)) :: ((b4, .cells #[(.int .i64 0), (.int .i64 0), (.int .i64 0), (.slice none 0 0), (.slice none 0 0)] 27 (0, 0)) :: L))))) := hO143
  refine d_tail rfl ?_
  refine d_done (by kernel_rfl) ?_
  refine c_next ?_
  refine c_seq ?_
  refine c_reg ?_
  refine s_loadAll Try.underlying27 rfl I27 rfl (hO144.get (i := 0) rfl) rfl rfl ?_
  refine sv (r_move (v := .int _ _) rfl) ?_
  obtain ⟨hO147, e147⟩ := hO144.permE (pmbC (pmbA (pmbA (pmbC pmb0))))
  refine s_storeN (vs := #[(.int .i64 xc4_b6.Epoch), (.int .i64 xc4_b6.Owner), (.int .i64 xc4_b6.Next), (.slice a53_0 m53_0 c53_0), (.slice a56_0 m56_0 c56_0)]) I27 rfl rfl rfl hO147 (i := 0) rfl (Nat.le_of_ble_eq_true rfl) (List.all_eq_true.1 rfl) ?_
  intro w146 hO146 e146
  have hO148 : Own w146 ((b4, .cells #[(.int .i64 xc4_b6.Epoch), (.int .i64 xc4_b6.Owner), (.int .i64 xc4_b6.Next), (.slice a53_0 m53_0 c53_0), (.slice a56_0 m56_0 c56_0)] 27 (0, 0)) :: ((b6, .cells #[(.int .i64 xc4_b6.Epoch), (.int .i64 xc4_b6.Owner), (.int .i64 xc4_b6.Next), (.slice a53_0 m53_0 c53_0), (.slice a56_0 m56_0 c56_0)] 27 (0, 0)) :: (S56_0 ++ (S53_0 ++ ((b2, .cells #[(.int .i64 x0.Epoch), (.int .i64 x0.Owner), (.int .i64 x0.Next), (.slice aP0 mP0 cP0), (.slice aP1 mP1 cP1)] 27 (0, 0)) :: L))))) := hO146
  refine sv (r_assign (v := .int _ _) rfl) ?_
  refine s_nil ?_
  refine c_next ?_
  refine c_ret ?_
  refine e_r2 Try.results9 (rv_agg Try.underlying27 rfl I27 rfl (hO148.get (i := 0) rfl) rfl rfl) (rv_tmp (v := .int _ _) rfl) ?_
  obtain ⟨hO150, e150⟩ := hO148.drop1
  obtain ⟨hO151, e151⟩ := hO150.drop1
  obtain ⟨hO152, e152⟩ := hO151.permE (pmbA (pmbA pmb0))
  obtain ⟨hO153, e153⟩ := hO152.drop1
  obtain ⟨hO154, e154⟩ := hO153.permE (pmA pm0)
  rw [← Option.some.inj h]
  exact ⟨a53_0, m53_0, c53_0, S53_0, a56_0, m56_0, c56_0, S56_0, rfl, hm53_0, hS53_0, hm56_0, hS56_0, hO154, (e4.trans (e7.trans (e10.trans (e15.trans (e18.trans (e63.trans (e133.trans (e135.trans (e137.trans (e140.trans (e139.trans (e143.trans (e147.trans (e146.trans (e150.trans (e151.trans (e152.trans (e153.trans e154))))))))))))))))))⟩
theorem c_slices_Equal_roster_Device (x0 : (List T_roster_Device)) (x1 : (List T_roster_Device)) (aP0 : Option Addr) (mP0 cP0 : Nat) (aP1 : Option Addr) (mP1 cP1 : Nat)  (r : Bool) (h : F_slices_Equal_roster_Device x0 x1 = some r) (w : World) (L : Hp) (hm0p : x0.length = mP0) (hc0p : mP0 ≤ cP0) (hR0p : Rd w L aP0 (fl e_roster_Device x0)) (hm1p : x1.length = mP1) (hc1p : mP1 ≤ cP1) (hR1p : Rd w L aP1 (fl e_roster_Device x1)) (hO : Own w L) :
    Calls Try.prog 36 #[(.slice aP0 mP0 cP0), (.slice aP1 mP1 cP1)] w fun en w' => en = .returned (.bool r) ∧ Own w' L ∧ Ext w L w' L := by
  unfold F_slices_Equal_roster_Device at h
  refine enter (n := 26) [(.slice aP0 mP0 cP0), (.slice aP1 mP1 cP1)] Try.func36 rfl rfl (Nat.le_of_ble_eq_true rfl) ?_
  refine c_seq ?_
  refine c_reg ?_
  refine sv (r_assign (v := .bool false) rfl) ?_
  refine s_nil ?_
  refine c_next ?_
  refine c_seq ?_
  obtain ⟨oc1, G1, hG1, h, hr1⟩ := bindG h
  refine c_cutL hO (fun Lc f0 g w' => ∃ (xc1_t10 : Bool), (G1 xc1_t10 = some r) ∧ g 0 = (.slice aP0 mP0 cP0) ∧ g 1 = (.slice aP1 mP1 cP1) ∧ g 10 = (.bool xc1_t10) ∧ Own w' L ∧ Ext w Lc w' L) ?_ ?_
  · skip
    refine c_reg ?_
    refine sv (r_move (v := .slice _ _ _) rfl) ?_
    refine sv (r_lenL (xs := x0) Try.underlying24 rfl hm0p) ?_
    refine sv (r_move (v := .slice _ _ _) rfl) ?_
    refine sv (r_lenL (xs := x1) Try.underlying24 rfl hm1p) ?_
    refine c_neq rfl rfl (fun h10 => ?_) (fun h10 => ?_)
    · replace h := iT h10 h
      refine s_nil ?_
      refine c_next ?_
      rw [← Option.some.inj h] at hr1
      exact ⟨_, rfl, true, hr1, rfl, rfl, rfl, hO, (Ext.refl _ _)⟩
    replace h := iF (Classical.not_not.2 h10) h
    refine s_nil ?_
    refine c_next ?_
    rw [← Option.some.inj h] at hr1
    exact ⟨_, rfl, false, hr1, rfl, rfl, rfl, hO, (Ext.refl _ _)⟩
  intro gg1 w1 hI1
  clear h hr1
  obtain ⟨xc1_t10, h, hsc1_0, hsc1_1, hsc1_10, hO1, e1⟩ := hI1
  replace h := hG_ hG1 h; clear hG1
  obtain ⟨qq1, rfl⟩ := fr3 hsc1_0 hsc1_1 hsc1_10
  clear hsc1_0 hsc1_1 hsc1_10
  rcases Bool.eq_false_or_eq_true (xc1_t10) with hb2 | hb2
  · replace h := iT hb2 h
    refine c_condT (congrArg Value.bool hb2) ?_
    refine c_seq ?_
    refine c_reg ?_
    refine sv (r_assign (v := .bool false) rfl) ?_
    refine s_nil ?_
    refine c_next ?_
    refine c_ret ?_
    refine r_then ?_
    refine e_1 (v := .bool false) Try.results36 rfl ?_
    rw [← Option.some.inj h]
    exact ⟨rfl, hO1, e1⟩
  replace h := iF (nt hb2) h
  refine c_condF (congrArg Value.bool hb2) ?_
  refine c_skip ?_
  refine c_next ?_
  refine c_seq ?_
  refine c_seq ?_
  refine c_reg ?_
  refine sv (r_move (v := .slice _ _ _) rfl) ?_
  refine sv (r_lenL (xs := x0) Try.underlying24 rfl hm0p) ?_
  refine sv (r_move (v := .int _ _) rfl) ?_
  refine s_nil ?_
  refine c_next ?_
  refine c_block ?_
  have hR0p := (hR0p.ext e1)
  have hR1p := (hR1p.ext e1)
  obtain ⟨kl9, hkl9⟩ := loop_iff.1 h
  clear h
  refine c_loopL hO1 (fun Lc f0 m g wl => ∃ (xl2_t13 : Int), (iterK (slices_Equal_roster_Device_l2 x0 x1) m xl2_t13 = some r) ∧ g 0 = (.slice aP0 mP0 cP0) ∧ g 1 = (.slice aP1 mP1 cP1) ∧ g 12 = (.int .i64 ((x0.length : Int))) ∧ g 13 = (.int .i64 xl2_t13) ∧ Own wl L ∧ Ext w1 Lc wl L) kl9 ?_ ?_
  · skip
    exact ⟨0, hkl9, rfl, rfl, rfl, rfl, hO1, (Ext.refl _ _)⟩
  clear hkl9
  intro mm9 gg9 w9 hI9
  obtain ⟨xl2_t13, hkl9, hsl2_0, hsl2_1, hsl2_12, hsl2_13, hO9, e9⟩ := hI9
  obtain ⟨kl9, yl9, rfl, h, hyl9⟩ := iterE hkl9
  clear hkl9
  obtain ⟨qq9, rfl⟩ := fr4 hsl2_0 hsl2_1 hsl2_12 hsl2_13
  clear hsl2_0 hsl2_1 hsl2_12 hsl2_13
  refine c_seq ?_
  refine c_reg ?_
  refine c_lss rfl rfl (fun h14 => ?_) (fun h14 => ?_)
  · replace h := iT h14 h
    refine s_nil ?_
    refine c_next ?_
    refine c_seq ?_
    refine c_condT rfl ?_
    refine c_skip ?_
    refine c_next ?_
    refine c_seq ?_
    refine c_block ?_
    refine c_seq ?_
    refine c_reg ?_
    refine sv (r_move (v := .int _ _) rfl) ?_
    refine sv (r_assign (v := .int _ _) rfl) ?_
    refine s_nil ?_
    refine c_next ?_
    refine c_seq ?_
    have hR0p := (hR0p.ext e9)
    have hR1p := (hR1p.ext e9)
    refine d_startL hO9 hO9 9 (by kernel_rfl) (pk_then (pk_block (pk_then (pk_then (pk_block (pk_then pk_body)))))) ?_
    intro hP11 wd11 hK11 hO10 e10
    refine dT (i := 0) (listed' := #[I_,O_,O_,O_,O_,O_,O_,O_,O_]) rfl hP11 hK11 (fun wS hS => (r_move (v := .slice _ _ _) rfl)) ?_
    refine dT (i := 1) (listed' := #[I_,I_,O_,O_,O_,O_,O_,O_,O_]) rfl hP11 hK11 (fun wS hS => (r_move (v := .int _ _) rfl)) ?_
    obtain ⟨y18, hy18, h⟩ := bindE h
    obtain ⟨ad18, had18, hk18⟩ := ix_known (e := e_roster_Device) (Rd.cs hR0p) e_roster_Device_len (by decide) hy18
    have hx18 : Value.slice aP0 mP0 cP0 = .slice (some ad18) mP0 cP0 := by rw [had18]
    refine dT (i := 2) (listed' := #[I_,I_,I_,O_,O_,O_,O_,O_,O_]) rfl hP11 hK11 (fun wS hS => (ra_idx (xs := x0) (i := xl2_t13) Try.underlying24 I56 (by exact hx18) (by rfl) hm0p hy18)) ?_
    refine dT (i := 3) (listed' := #[I_,I_,I_,I_,O_,O_,O_,O_,O_]) rfl hP11 hK11 (fun wS hS => (r_loadN (cs := [(.int .i64 y18.Id), (.int .i64 y18.Times), (.bool y18.Gone), (.int .i64 y18.Last)]) Try.underlying56 rfl I56 rfl rfl (hk18 _ (hR0p.kept hS)))) ?_
    refine dT (i := 4) (listed' := #[I_,I_,I_,I_,I_,O_,O_,O_,O_]) rfl hP11 hK11 (fun wS hS => (r_move (v := .slice _ _ _) rfl)) ?_
    refine dT (i := 5) (listed' := #[I_,I_,I_,I_,I_,I_,O_,O_,O_]) rfl hP11 hK11 (fun wS hS => (r_move (v := .int _ _) rfl)) ?_
    obtain ⟨y22, hy22, h⟩ := bindE h
    obtain ⟨ad22, had22, hk22⟩ := ix_known (e := e_roster_Device) (Rd.cs hR1p) e_roster_Device_len (by decide) hy22
    have hx22 : Value.slice aP1 mP1 cP1 = .slice (some ad22) mP1 cP1 := by rw [had22]
    refine dT (i := 6) (listed' := #[I_,I_,I_,I_,I_,I_,I_,O_,O_]) rfl hP11 hK11 (fun wS hS => (ra_idx (xs := x1) (i := xl2_t13) Try.underlying24 I56 (by exact hx22) (by rfl) hm1p hy22)) ?_
    refine dT (i := 7) (listed' := #[I_,I_,I_,I_,I_,I_,I_,I_,O_]) rfl hP11 hK11 (fun wS hS => (r_loadN (cs := [(.int .i64 y22.Id), (.int .i64 y22.Times), (.bool y22.Gone), (.int .i64 y22.Last)]) Try.underlying56 rfl I56 rfl rfl (hk22 _ (hR1p.kept hS)))) ?_
    refine dT (i := 8) (listed' := #[I_,I_,I_,I_,I_,I_,I_,I_,I_]) rfl hP11 hK11 (fun wS hS => (r_stNe (u := y18) (v := y22) (by kernel_rfl) (fun D => eq_56 D _ _ _) rfl rfl)) ?_
    refine d_done (by kernel_rfl) ?_
    refine c_next ?_
    rcases Bool.eq_false_or_eq_true ((decide (y18 = y22))) with hb12 | hb12
    · replace h := iT hb12 h
      refine c_condF (congrArg Value.bool (nnt hb12)) ?_
      refine c_skip ?_
      refine x_norm ?_
      refine c_next ?_
      refine c_reg ?_
      refine sv (r_addI (a := xl2_t13) (b := 1) rfl rfl) ?_
      refine sv (r_move (v := .int _ _) rfl) ?_
      refine s_nil ?_
      refine l_end (m' := kl9) (Nat.lt_succ_self _) ?_
      rw [← Option.some.inj h] at hyl9
      exact ⟨(w64 (xl2_t13 + 1)), hyl9, rfl, rfl, rfl, rfl, hO10, (e9.trans e10)⟩
    replace h := iF (nt hb12) h
    refine c_condT (congrArg Value.bool (nnf hb12)) ?_
    refine c_seq ?_
    refine c_reg ?_
    refine sv (r_assign (v := .bool false) rfl) ?_
    refine s_nil ?_
    refine c_next ?_
    refine c_ret ?_
    refine r_block ?_
    refine r_then ?_
    refine r_then ?_
    refine r_block ?_
    refine r_then ?_
    replace h := crossE h hyl9
    refine e_1 (v := .bool false) Try.results36 rfl ?_
    rw [← Option.some.inj h]
    exact ⟨rfl, hO10, (e1.trans (e9.trans e10))⟩
  replace h := iF (Int.not_lt.2 h14) h
  refine s_nil ?_
  refine c_next ?_
  refine c_seq ?_
  refine c_condF rfl ?_
  refine c_exit ?_
  refine x_then ?_
  refine x_then ?_
  refine x_same ?_
  replace h := crossE h hyl9
  refine c_next ?_
  refine c_seq ?_
  refine c_reg ?_
  refine sv (r_assign (v := .bool true) rfl) ?_
  refine s_nil ?_
  refine c_next ?_
  refine c_ret ?_
  refine e_1 (v := .bool true) Try.results36 rfl ?_
  rw [← Option.some.inj h]
  exact ⟨rfl, hO9, (e1.trans e9)⟩
end Go.Proofs.Ytbigpfenlmfhgaa

