/- A part of the proof that the row of the law holds of the program as translated: lemmas and contracts of its functions. -/
import Derived.Test.YtbigpfenlmfhgaaAvO
set_option linter.unusedVariables false
namespace Go.AV
structure T_roster_Device where
  Id : Int
  Times : Int
  Gone : Bool
  Last : Int
deriving DecidableEq
structure T_ticket_Ticket where
  No : Int
  For : Int
  Until : Int
deriving DecidableEq
structure T_claim_State where
  Epoch : Int
  Owner : Int
  Next : Int
  Roster : (List T_roster_Device)
  Tickets : (List T_ticket_Ticket)
deriving DecidableEq
structure T_claim_Op where
  Kind : Int
  Device : Int
  Request : Int
  Ticket : Int
  For : Int
  Until : Int
  Now : Int
deriving DecidableEq
structure T_batonref25_Device where
  Id : Int
  Times : Int
  Gone : Bool
  Last : Int
deriving DecidableEq
noncomputable def F_slices_Clone_roster_Device (x0 : (List T_roster_Device)) : Option (List T_roster_Device) :=
  ((appO 32 ([] : List T_roster_Device) x0).bind fun y7 => (some y7))
noncomputable def slices_BinarySearchFunc_int_l1 (x0 : (List T_roster_Device)) (x1 : Int) (x2 : (T_roster_Device → Int → Option Int)) : (Int × Int) → Option ((Int × Int) ⊕ (Int × Bool)) := fun (xl1_t9, xl1_t10) =>
  (Option.bind (if xl1_t9 < xl1_t10 then (some true) else (some false)) (fun xc2_t17 => (if xc2_t17 = true then (Option.bind ((ix x0 ((w64 (((UInt64.ofNat (((UInt64.ofInt ((w64 (xl1_t9 + xl1_t10))))).toNat / 2 ^ (min (1 : Int).toNat 64)))).toNat : Int)))).bind fun y27 => (Option.bind (x2 y27 x1) fun y30 => (if y30 < 0 then (some true) else (some false)))) (fun xc3_t31 => (if xc3_t31 = true then (some (Sum.inl ((w64 (((w64 (((UInt64.ofNat (((UInt64.ofInt ((w64 (xl1_t9 + xl1_t10))))).toNat / 2 ^ (min (1 : Int).toNat 64)))).toNat : Int))) + 1)), xl1_t10))) else (some (Sum.inl (xl1_t9, (w64 (((UInt64.ofNat (((UInt64.ofInt ((w64 (xl1_t9 + xl1_t10))))).toNat / 2 ^ (min (1 : Int).toNat 64)))).toNat : Int)))))))) else (((if xl1_t9 < (x0.length : Int) then ((ix x0 xl1_t9).bind fun y43 => (Option.bind (x2 y43 x1) fun y46 => (if y46 = 0 then (some (xl1_t9, true)) else (some (xl1_t9, false))))) else (some (xl1_t9, false)))).map Sum.inr))))
noncomputable def F_slices_BinarySearchFunc_int (x0 : (List T_roster_Device)) (x1 : Int) (x2 : (T_roster_Device → Int → Option Int)) : Option (Int × Bool) :=
  (loopO (slices_BinarySearchFunc_int_l1 x0 x1 x2) (0, (x0.length : Int)))
noncomputable def F_cmp_isNaN_int (x0 : Int) : Option Bool :=
  (if x0 ≠ x0 then (some true) else (some false))
noncomputable def F_cmp_Compare_int (x0 : Int) (x1 : Int) : Option Int :=
  (Option.bind (F_cmp_isNaN_int x0) fun y8 => (Option.bind (F_cmp_isNaN_int x1) fun y10 => (if y8 = true then (if y10 = true then (some 0) else (some (-1))) else (if y10 = true then (some 1) else (if x0 < x1 then (some (-1)) else (if x0 > x1 then (some 1) else (some 0)))))))
noncomputable def F_roster_place_1 (x0 : T_roster_Device) (x1 : Int) : Option Int :=
  (Option.bind (F_cmp_Compare_int x0.Id x1) fun y8 => (some y8))
noncomputable def F_roster_place (x0 : (List T_roster_Device)) (x1 : Int) : Option (Int × Bool) :=
  (Option.bind (F_slices_BinarySearchFunc_int x0 x1 (fun z0 z1 => F_roster_place_1 z0 z1)) fun y8 => (some (y8.1, y8.2)))
noncomputable def F_slices_Insert_roster_Device (x0 : List T_roster_Device) (x1 : Int) (x2 : List T_roster_Device) : Option (List T_roster_Device) :=
  if 0 ≤ x1 ∧ x1 ≤ x0.length ∧ x2.length = 1 ∧ (x0.length + 1) * 32 ≤ 140737488355328 then some (x0.take x1.toNat ++ x2 ++ x0.drop x1.toNat) else none
noncomputable def F_roster_Enrol (x0 : (List T_roster_Device)) (x1 : Int) : Option ((List T_roster_Device) × Int) :=
  (Option.bind (F_slices_Clone_roster_Device x0) fun y10 => (Option.bind (F_roster_place x0 x1) fun y14 => (Option.bind (if x1 < 0 then (some true) else (if x1 ≥ 16 then (some true) else (some false))) (fun xc1_t17 => (if xc1_t17 = true then (some (y10, 1)) else (if y14.2 = true then ((ix x0 y14.1).bind fun y37 => (if y37.Gone = true then ((ix x0 y14.1).bind fun y45 => (if y45.Times ≥ 1000 then (some (y10, 16)) else ((ix x0 y14.1).bind fun y55 => ((ix y10 y14.1).bind fun y60 => (some ((y10.set (y14.1 : Int).toNat ({ Id := x1, Times := (w64 (y55.Times + 1)), Gone := false, Last := 0 } : T_roster_Device)), 0)))))) else (some (y10, 12)))) else (Option.bind (F_slices_Insert_roster_Device y10 y14.1 [({ Id := x1, Times := 1, Gone := false, Last := 0 } : T_roster_Device)]) fun y33 => (some (y33, 0)))))))))
noncomputable def F_roster_there (x0 : (List T_roster_Device)) (x1 : Int) : Option (Int × Int) :=
  (Option.bind (F_roster_place x0 x1) fun y11 => (if y11.2 = true then ((ix x0 y11.1).bind fun y20 => (if y20.Gone = true then (some (0, 15)) else (some (y11.1, 0)))) else (some (0, 11))))
noncomputable def F_roster_Revoke (x0 : (List T_roster_Device)) (x1 : Int) : Option ((List T_roster_Device) × Int) :=
  (Option.bind (F_slices_Clone_roster_Device x0) fun y10 => (Option.bind (F_roster_there x0 x1) fun y14 => (if y14.2 ≠ 0 then (some (y10, y14.2)) else ((ix y10 y14.1).bind fun y23 => (some ((y10.set (y14.1 : Int).toNat ({ Id := y23.Id, Times := y23.Times, Gone := true, Last := y23.Last } : T_roster_Device)), 0))))))
noncomputable def F_claim_State_move (x0 : T_claim_State) (x1 : Int) : Option (T_claim_State × Int) :=
  (if x0.Epoch ≥ 1099511627776 then (some (x0, 16)) else (some (({ Epoch := (w64 (x0.Epoch + 1)), Owner := x1, Next := x0.Next, Roster := x0.Roster, Tickets := [] } : T_claim_State), 0)))
noncomputable def F_claim_State_revoke (x0 : T_claim_State) (x1 : Int) : Option (T_claim_State × Int) :=
  (Option.bind (F_roster_Revoke x0.Roster x1) fun y12 => (Option.bind (if y12.2 ≠ 0 then (some true) else (some false)) (fun xc1_t16 => (if xc1_t16 = true then (some (x0, y12.2)) else (if x0.Owner = x1 then (Option.bind (F_claim_State_move ({ Epoch := x0.Epoch, Owner := x0.Owner, Next := x0.Next, Roster := y12.1, Tickets := x0.Tickets } : T_claim_State) (-1)) fun y26 => (some (({ Epoch := y26.1.Epoch, Owner := y26.1.Owner, Next := y26.1.Next, Roster := y26.1.Roster, Tickets := y26.1.Tickets } : T_claim_State), y26.2))) else (some (({ Epoch := x0.Epoch, Owner := x0.Owner, Next := x0.Next, Roster := y12.1, Tickets := x0.Tickets } : T_claim_State), 0)))))))
noncomputable def F_roster_May (x0 : (List T_roster_Device)) (x1 : Int) (x2 : Int) : Option Int :=
  (Option.bind (F_roster_there x0 x1) fun y12 => (if y12.2 = 0 then ((ix x0 y12.1).bind fun y21 => (if x2 ≤ y21.Last then (some 20) else (if x2 > 281474976710656 then (some 20) else (some y12.2)))) else (some y12.2)))
noncomputable def F_roster_Accept (x0 : (List T_roster_Device)) (x1 : Int) (x2 : Int) : Option ((List T_roster_Device) × Int) :=
  (Option.bind (F_slices_Clone_roster_Device x0) fun y13 => (Option.bind (F_roster_May x0 x1 x2) fun y17 => (Option.bind (if y17 ≠ 0 then (some true) else (some false)) (fun xc1_t19 => (if xc1_t19 = true then (some (y13, y17)) else (Option.bind (F_roster_place x0 x1) fun y25 => ((ix y13 y25.1).bind fun y31 => (some ((y13.set (y25.1 : Int).toNat ({ Id := y31.Id, Times := y31.Times, Gone := y31.Gone, Last := x2 } : T_roster_Device)), 0)))))))))
noncomputable def F_roster_Find (x0 : (List T_roster_Device)) (x1 : Int) : Option (T_roster_Device × Bool) :=
  (Option.bind (F_roster_place x0 x1) fun y11 => (if y11.2 = true then ((ix x0 y11.1).bind fun y19 => (some (y19, true))) else (some (({ Id := 0, Times := 0, Gone := false, Last := 0 } : T_roster_Device), false))))
noncomputable def F_claim_State_whom (x0 : T_claim_State) (x1 : Int) : Option Int :=
  (Option.bind (if x1 = (-1) then (some true) else (some false)) (fun xc1_t8 => (if xc1_t8 = true then (some 0) else (Option.bind (if x1 < 0 then (some true) else (if x1 ≥ 16 then (some true) else (some false))) (fun xc2_t14 => (if xc2_t14 = true then (some 1) else (Option.bind (F_roster_Find x0.Roster x1) fun y19 => (if y19.2 = true then (if y19.1.Gone = true then (some 15) else (some 0)) else (some 11)))))))))
noncomputable def F_slices_Clone_ticket_Ticket (x0 : (List T_ticket_Ticket)) : Option (List T_ticket_Ticket) :=
  ((appO 24 ([] : List T_ticket_Ticket) x0).bind fun y7 => (some y7))
noncomputable def F_ticket_Live_1 (x0 : T_ticket_Ticket) (k0 : Int) : Option Bool :=
  (if x0.Until < k0 then (some true) else (some false))
noncomputable def slices_IndexFunc_ticket_Ticket_l1 (x0 : (List T_ticket_Ticket)) (x1 : (T_ticket_Ticket → Option Bool)) : Int → Option (Int ⊕ Int) := fun xl1_t8 =>
  (if xl1_t8 < (x0.length : Int) then ((ix x0 xl1_t8).bind fun y14 => (Option.bind (x1 y14) fun y16 => (if y16 = true then (((some xl1_t8)).map Sum.inr) else (some (Sum.inl (w64 (xl1_t8 + 1))))))) else (((some (-1))).map Sum.inr))
noncomputable def F_slices_IndexFunc_ticket_Ticket (x0 : (List T_ticket_Ticket)) (x1 : (T_ticket_Ticket → Option Bool)) : Option Int :=
  (loopO (slices_IndexFunc_ticket_Ticket_l1 x0 x1) 0)
noncomputable def slices_DeleteFunc_ticket_Ticket_l2 (x1 : (T_ticket_Ticket → Option Bool)) : ((List T_ticket_Ticket) × Int × Int) → Option (((List T_ticket_Ticket) × Int × Int) ⊕ (List T_ticket_Ticket)) := fun (xl2_t0, xl2_t5, xl2_t6) =>
  (Option.bind (if xl2_t6 < (xl2_t0.length : Int) then (some true) else (some false)) (fun xc3_t19 => (if xc3_t19 = true then ((ix xl2_t0 xl2_t6).bind fun y24 => (Option.bind (x1 y24) fun y28 => (if y28 = true then (some (Sum.inl (xl2_t0, xl2_t5, (w64 (xl2_t6 + 1))))) else ((ix xl2_t0 xl2_t5).bind fun y33 => (some (Sum.inl ((xl2_t0.set (xl2_t5 : Int).toNat y24), (w64 (xl2_t5 + 1)), (w64 (xl2_t6 + 1))))))))) else ((((cutO xl2_t0 xl2_t5 (xl2_t0.length : Int)).bind fun y38 => ((cutO (List.take (xl2_t5 : Int).toNat xl2_t0) 0 xl2_t5).bind fun y41 => (some y41)))).map Sum.inr))))
noncomputable def F_slices_DeleteFunc_ticket_Ticket (x0 : (List T_ticket_Ticket)) (x1 : (T_ticket_Ticket → Option Bool)) : Option (List T_ticket_Ticket) :=
  (Option.bind (F_slices_IndexFunc_ticket_Ticket x0 x1) fun y10 => (Option.bind (if y10 = (-1) then (some true) else (some false)) (fun xc1_t12 => (if xc1_t12 = true then (some x0) else (loopO (slices_DeleteFunc_ticket_Ticket_l2 x1) (x0, y10, (w64 (y10 + 1))))))))
noncomputable def F_ticket_Live (x0 : (List T_ticket_Ticket)) (x1 : Int) : Option (List T_ticket_Ticket) :=
  (Option.bind (F_slices_Clone_ticket_Ticket x0) fun y6 => (Option.bind (F_slices_DeleteFunc_ticket_Ticket y6 (fun z0 => F_ticket_Live_1 z0 x1)) fun y8 => (some y8)))
noncomputable def F_ticket_one (x0 : T_ticket_Ticket) : Option Bool :=
  (if x0.No ≥ 1 then (if x0.No ≤ 281474976710656 then (if x0.For ≥ (-1) then (if x0.For < 16 then (if x0.Until ≥ 0 then (if x0.Until ≤ 281474976710656 then (some true) else (some false)) else (some false)) else (some false)) else (some false)) else (some false)) else (some false))
noncomputable def F_ticket_Issue (x0 : (List T_ticket_Ticket)) (x1 : T_ticket_Ticket) : Option ((List T_ticket_Ticket) × Int) :=
  (Option.bind (F_slices_Clone_ticket_Ticket x0) fun y8 => (Option.bind (F_ticket_one x1) fun y11 => (if y11 = true then (Option.bind (if (x0.length : Int) > 0 then ((ix x0 ((w64 (((x0.length : Int)) - 1)))).bind fun y25 => (if x1.No ≤ y25.No then (some true) else (some false))) else (some false)) (fun xc1_t14 => (if xc1_t14 = true then (some (y8, 20)) else (if (x0.length : Int) ≥ 24 then (some (y8, 2)) else ((appO 24 y8 [x1]).bind fun y39 => (some (y39, 0))))))) else (some (y8, 1)))))
noncomputable def F_claim_State_issue (x0 : T_claim_State) (x1 : T_claim_Op) : Option (T_claim_State × Int) :=
  (Option.bind (if x0.Owner ≠ x1.Device then (some true) else (some false)) (fun xc1_t13 => (if xc1_t13 = true then (some (x0, 10)) else (Option.bind (F_claim_State_whom x0 x1.For) fun y18 => (Option.bind (if y18 ≠ 0 then (some true) else (some false)) (fun xc2_t20 => (if xc2_t20 = true then (some (x0, y18)) else (Option.bind (if x0.Next ≥ 281474976710656 then (some true) else (some false)) (fun xc3_t25 => (if xc3_t25 = true then (some (x0, 16)) else (Option.bind (F_ticket_Live x0.Tickets x1.Now) fun y32 => (Option.bind (F_ticket_Issue y32 ({ No := x0.Next, For := x1.For, Until := x1.Until } : T_ticket_Ticket)) fun y40 => (if y40.2 ≠ 0 then (some (x0, y40.2)) else (some (({ Epoch := x0.Epoch, Owner := x0.Owner, Next := (w64 (x0.Next + 1)), Roster := x0.Roster, Tickets := y40.1 } : T_claim_State), 0)))))))))))))))
noncomputable def F_ticket_Use_1 (x0 : T_ticket_Ticket) (k0 : Int) : Option Bool :=
  (if x0.No = k0 then (some true) else (some false))
noncomputable def F_ticket_Use (x0 : (List T_ticket_Ticket)) (x1 : Int) (x2 : Int) (x3 : Int) : Option Int :=
  (Option.bind (F_slices_IndexFunc_ticket_Ticket x0 (fun z0 => F_ticket_Use_1 z0 x1)) fun y12 => (Option.bind (if y12 < 0 then (some true) else ((ix x0 y12).bind fun y19 => (if y19.For ≥ 0 then ((ix x0 y12).bind fun y26 => (if y26.For ≠ x2 then (some true) else (some false))) else (some false)))) (fun xc1_t13 => (if xc1_t13 = true then (some 13) else ((ix x0 y12).bind fun y36 => (if y36.Until < x3 then (some 14) else (some 0)))))))
noncomputable def F_claim_State_asked (x0 : T_claim_State) (x1 : T_claim_Op) : Option (T_claim_State × Int) :=
  (Option.bind (F_roster_Accept x0.Roster x1.Device x1.Request) fun y16 => (Option.bind (if y16.2 ≠ 0 then (some true) else (some false)) (fun xc1_t20 => (if xc1_t20 = true then (some (x0, y16.2)) else (Option.bind (if x1.Kind = 3 then (some true) else (some false)) (fun xc2_t27 => (if xc2_t27 = true then (Option.bind (F_claim_State_issue ({ Epoch := x0.Epoch, Owner := x0.Owner, Next := x0.Next, Roster := y16.1, Tickets := x0.Tickets } : T_claim_State) x1) fun y31 => (some (({ Epoch := y31.1.Epoch, Owner := y31.1.Owner, Next := y31.1.Next, Roster := y31.1.Roster, Tickets := y31.1.Tickets } : T_claim_State), y31.2))) else (Option.bind (if x1.Kind = 4 then (some true) else (some false)) (fun xc3_t34 => (if xc3_t34 = true then (Option.bind (F_ticket_Use x0.Tickets x1.Ticket x1.Device x1.Now) fun y44 => (if y44 ≠ 0 then (some (({ Epoch := x0.Epoch, Owner := x0.Owner, Next := x0.Next, Roster := y16.1, Tickets := x0.Tickets } : T_claim_State), y44)) else (Option.bind (F_claim_State_move ({ Epoch := x0.Epoch, Owner := x0.Owner, Next := x0.Next, Roster := y16.1, Tickets := x0.Tickets } : T_claim_State) x1.Device) fun y52 => (some (({ Epoch := y52.1.Epoch, Owner := y52.1.Owner, Next := y52.1.Next, Roster := y52.1.Roster, Tickets := y52.1.Tickets } : T_claim_State), y52.2))))) else (Option.bind (F_claim_State_move ({ Epoch := x0.Epoch, Owner := x0.Owner, Next := x0.Next, Roster := y16.1, Tickets := x0.Tickets } : T_claim_State) x1.Device) fun y52 => (some (({ Epoch := y52.1.Epoch, Owner := y52.1.Owner, Next := y52.1.Next, Roster := y52.1.Roster, Tickets := y52.1.Tickets } : T_claim_State), y52.2)))))))))))))
noncomputable def F_claim_Do (x0 : T_claim_State) (x1 : T_claim_Op) : Option (T_claim_State × Int) :=
  (Option.bind (Option.bind (if x1.Kind = 1 then (some true) else (some false)) (fun xc1_t11 => (if xc1_t11 = true then (Option.bind (F_roster_Enrol x0.Roster x1.Device) fun y18 => (some (y18.2, ({ Epoch := x0.Epoch, Owner := x0.Owner, Next := x0.Next, Roster := y18.1, Tickets := x0.Tickets } : T_claim_State)))) else (Option.bind (if x1.Kind = 2 then (some true) else (some false)) (fun xc2_t22 => (if xc2_t22 = true then (Option.bind (F_claim_State_revoke x0 x1.Device) fun y28 => (some (y28.2, ({ Epoch := y28.1.Epoch, Owner := y28.1.Owner, Next := y28.1.Next, Roster := y28.1.Roster, Tickets := y28.1.Tickets } : T_claim_State)))) else (Option.bind (if x1.Kind = 3 then (some true) else (if x1.Kind = 4 then (some true) else (if x1.Kind = 5 then (some true) else (some false)))) (fun xc3_t31 => (if xc3_t31 = true then (Option.bind (F_claim_State_asked x0 x1) fun y38 => (some (y38.2, ({ Epoch := y38.1.Epoch, Owner := y38.1.Owner, Next := y38.1.Next, Roster := y38.1.Roster, Tickets := y38.1.Tickets } : T_claim_State)))) else (if x1.Kind = 6 then (Option.bind (F_claim_State_move x0 (-1)) fun y45 => (some (y45.2, ({ Epoch := y45.1.Epoch, Owner := y45.1.Owner, Next := y45.1.Next, Roster := y45.1.Roster, Tickets := y45.1.Tickets } : T_claim_State)))) else (some (7, x0)))))))))))) (fun (xc4_t7, xc4_b6) => (if xc4_t7 ≠ 0 then (Option.bind (F_slices_Clone_roster_Device x0.Roster) fun y53 => (Option.bind (F_slices_Clone_ticket_Ticket x0.Tickets) fun y56 => (some (({ Epoch := x0.Epoch, Owner := x0.Owner, Next := x0.Next, Roster := y53, Tickets := y56 } : T_claim_State), xc4_t7)))) else (Option.bind (F_slices_Clone_roster_Device xc4_b6.Roster) fun y53 => (Option.bind (F_slices_Clone_ticket_Ticket xc4_b6.Tickets) fun y56 => (some (({ Epoch := xc4_b6.Epoch, Owner := xc4_b6.Owner, Next := xc4_b6.Next, Roster := y53, Tickets := y56 } : T_claim_State), xc4_t7)))))))
noncomputable def slices_Equal_roster_Device_l2 (x0 : (List T_roster_Device)) (x1 : (List T_roster_Device)) : Int → Option (Int ⊕ Bool) := fun xl2_t13 =>
  (if xl2_t13 < (x0.length : Int) then ((ix x0 xl2_t13).bind fun y18 => ((ix x1 xl2_t13).bind fun y22 => (if (decide (y18 = y22)) = true then (some (Sum.inl (w64 (xl2_t13 + 1)))) else (((some false)).map Sum.inr)))) else (((some true)).map Sum.inr))
noncomputable def F_slices_Equal_roster_Device (x0 : (List T_roster_Device)) (x1 : (List T_roster_Device)) : Option Bool :=
  (Option.bind (if (x0.length : Int) ≠ (x1.length : Int) then (some true) else (some false)) (fun xc1_t10 => (if xc1_t10 = true then (some false) else (loopO (slices_Equal_roster_Device_l2 x0 x1) 0))))
noncomputable def slices_Equal_ticket_Ticket_l2 (x0 : (List T_ticket_Ticket)) (x1 : (List T_ticket_Ticket)) : Int → Option (Int ⊕ Bool) := fun xl2_t13 =>
  (if xl2_t13 < (x0.length : Int) then ((ix x0 xl2_t13).bind fun y18 => ((ix x1 xl2_t13).bind fun y22 => (if (decide (y18 = y22)) = true then (some (Sum.inl (w64 (xl2_t13 + 1)))) else (((some false)).map Sum.inr)))) else (((some true)).map Sum.inr))
noncomputable def F_slices_Equal_ticket_Ticket (x0 : (List T_ticket_Ticket)) (x1 : (List T_ticket_Ticket)) : Option Bool :=
  (Option.bind (if (x0.length : Int) ≠ (x1.length : Int) then (some true) else (some false)) (fun xc1_t10 => (if xc1_t10 = true then (some false) else (loopO (slices_Equal_ticket_Ticket_l2 x0 x1) 0))))
noncomputable def F_claim_Same (x0 : T_claim_State) (x1 : T_claim_State) : Option Bool :=
  (if x0.Epoch = x1.Epoch then (if x0.Owner = x1.Owner then (if x0.Next = x1.Next then (Option.bind (F_slices_Equal_roster_Device x0.Roster x1.Roster) fun y29 => (if y29 = true then (Option.bind (F_slices_Equal_ticket_Ticket x0.Tickets x1.Tickets) fun y36 => (some y36)) else (some false))) else (some false)) else (some false)) else (some false))
noncomputable def F_batonlaw27_Few (x0 : T_claim_State) : Option Bool :=
  (if (x0.Roster.length : Int) ≤ 30 then (if (x0.Tickets.length : Int) ≤ 40 then (some true) else (some false)) else (some false))
noncomputable def roster_Right_l1 (x0 : (List T_roster_Device)) : Int → Option (Int ⊕ Bool) := fun xl1_t7 =>
  (Option.bind (if xl1_t7 < (x0.length : Int) then (some true) else (some false)) (fun xc2_t8 => (if xc2_t8 = true then ((ix x0 xl1_t7).bind fun y10 => (if y10.Id < 0 then (((some false)).map Sum.inr) else (if y10.Id ≥ 16 then (((some false)).map Sum.inr) else (if xl1_t7 > 0 then ((ix x0 ((w64 (xl1_t7 - 1)))).bind fun y29 => (if y10.Id ≤ y29.Id then (((some false)).map Sum.inr) else (if y10.Times < 1 then (((some false)).map Sum.inr) else (if y10.Times > 1000 then (((some false)).map Sum.inr) else (if y10.Last < 0 then (((some false)).map Sum.inr) else (if y10.Last > 281474976710656 then (((some false)).map Sum.inr) else (some (Sum.inl (w64 (xl1_t7 + 1)))))))))) else (if y10.Times < 1 then (((some false)).map Sum.inr) else (if y10.Times > 1000 then (((some false)).map Sum.inr) else (if y10.Last < 0 then (((some false)).map Sum.inr) else (if y10.Last > 281474976710656 then (((some false)).map Sum.inr) else (some (Sum.inl (w64 (xl1_t7 + 1)))))))))))) else (((some true)).map Sum.inr))))
noncomputable def F_roster_Right (x0 : (List T_roster_Device)) : Option Bool :=
  (loopO (roster_Right_l1 x0) 0)
noncomputable def ticket_Right_l1 (x0 : (List T_ticket_Ticket)) : Int → Option (Int ⊕ Bool) := fun xl1_t7 =>
  (Option.bind (if xl1_t7 < (x0.length : Int) then (some true) else (some false)) (fun xc2_t8 => (if xc2_t8 = true then ((ix x0 xl1_t7).bind fun y10 => (Option.bind (F_ticket_one y10) fun y13 => (if y13 = true then (if xl1_t7 > 0 then ((ix x0 ((w64 (xl1_t7 - 1)))).bind fun y24 => (if y10.No ≤ y24.No then (((some false)).map Sum.inr) else (some (Sum.inl (w64 (xl1_t7 + 1)))))) else (some (Sum.inl (w64 (xl1_t7 + 1))))) else (((some false)).map Sum.inr)))) else (((if (x0.length : Int) ≤ 24 then (some true) else (some false))).map Sum.inr))))
noncomputable def F_ticket_Right (x0 : (List T_ticket_Ticket)) : Option Bool :=
  (loopO (ticket_Right_l1 x0) 0)
noncomputable def F_claim_Right (x0 : T_claim_State) : Option Bool :=
  (Option.bind (if x0.Epoch < 0 then (some true) else (if x0.Epoch > 1099511627776 then (some true) else (if x0.Next < 1 then (some true) else (if x0.Next > 281474976710656 then (some true) else (Option.bind (F_roster_Right x0.Roster) fun y27 => (if y27 = true then (Option.bind (F_ticket_Right x0.Tickets) fun y33 => (some (!y33))) else (some true))))))) (fun xc1_t35 => (if xc1_t35 = true then (some false) else (Option.bind (if (x0.Tickets.length : Int) > 0 then ((ix x0.Tickets ((w64 (((x0.Tickets.length : Int)) - 1)))).bind fun y46 => (if y46.No ≥ x0.Next then (((some false)).map Sum.inr) else (if x0.Owner = (-1) then (((some false)).map Sum.inr) else (some (Sum.inl ()))))) else (some (Sum.inl ()))) (Sum.elim (fun (_ : Unit) => (Option.bind (F_roster_Find x0.Roster x0.Owner) fun y63 => (if x0.Owner = (-1) then (some true) else (if y63.2 = true then (some (!y63.1.Gone)) else (some false))))) some)))))
end Go.AV
