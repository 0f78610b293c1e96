/- A part of the proof that the row of the law holds of the program as translated: lemmas and contracts of its functions. -/
import Derived.Test.YtbigpfenlmfhgaaGvR
set_option linter.unusedVariables false
set_option linter.unusedSimpArgs false
namespace Go.GV
/-! ### 16. Tests in regions that draw (made by a program) -/
section
variable {P : Program} {ops : Array Oper} {Q : Exit → Act → World → Prop} {n k : Nat} {f : Fr} {w : World} {S : World → Prop}
theorem dt_lss {l : List Oper} {i fuel : Nat} {listed listed' : Array Bool} {d : Tmp} {ty t t' : TypeId} {pos : String} {af : Array Edge} {x y : Operand} {kd : IntKind} {a b : Int} 
    (hi : l[i]? = some ⟨some d, .binOp .lss t x y t', ty, pos, af, none⟩) (hb : okB l.toArray listed k i = true) (hl : listed.setIfInBounds i true = listed') (hQ : ∀ (v : Value) c (a : Act) w, Q (.panic c) (a.put (some d) v) w → Q (.panic c) a w) (hg : True = True) (hS : S w)
    (hx : ev n f x = .int kd a) (hy : ev n f y = .int kd b) (hT : a < b → WH P l.toArray Q S k n fuel listed' (upd f d (.bool true)) w) (hF : b ≤ a → WH P l.toArray Q S k n fuel listed' (upd f d (.bool false)) w) : WH P l.toArray Q S k n (fuel + 1) listed f w := by
  rcases Classical.em (a < b) with h | h
  · exact d_take hi hb hl (hQ _) rfl hS (fun _ _ => r_lssT hx hy h) (hT h)
  · exact d_take hi hb hl (hQ _) rfl hS (fun _ _ => r_lssF hx hy (by omega)) (hF (by omega))
theorem dt_lssG {l : List Oper} {i fuel : Nat} {listed listed' : Array Bool} {d : Tmp} {ty t t' : TypeId} {pos : String} {af : Array Edge} {x y : Operand} {kd : IntKind} {a b : Int} {j : Nat} {want : Bool} 
    (hi : l[i]? = some ⟨some d, .binOp .lss t x y t', ty, pos, af, some (j, want)⟩) (hb : okB l.toArray listed k i = true) (hl : listed.setIfInBounds i true = listed') (hQ : ∀ (v : Value) c (a : Act) w, Q (.panic c) (a.put (some d) v) w → Q (.panic c) a w) (dj : Tmp) (hj : (l[j]?).bind (·.dst) = some dj) (hv : ev n f (.tmp dj) = .bool want) (hS : S w)
    (hx : ev n f x = .int kd a) (hy : ev n f y = .int kd b) (hT : a < b → WH P l.toArray Q S k n fuel listed' (upd f d (.bool true)) w) (hF : b ≤ a → WH P l.toArray Q S k n fuel listed' (upd f d (.bool false)) w) : WH P l.toArray Q S k n (fuel + 1) listed f w := by
  rcases Classical.em (a < b) with h | h
  · exact d_takeG dj hi hb hl (hQ _) rfl hj hv hS (fun _ _ => r_lssT hx hy h) (hT h)
  · exact d_takeG dj hi hb hl (hQ _) rfl hj hv hS (fun _ _ => r_lssF hx hy (by omega)) (hF (by omega))
theorem dt_gtr {l : List Oper} {i fuel : Nat} {listed listed' : Array Bool} {d : Tmp} {ty t t' : TypeId} {pos : String} {af : Array Edge} {x y : Operand} {kd : IntKind} {a b : Int} 
    (hi : l[i]? = some ⟨some d, .binOp .gtr t x y t', ty, pos, af, none⟩) (hb : okB l.toArray listed k i = true) (hl : listed.setIfInBounds i true = listed') (hQ : ∀ (v : Value) c (a : Act) w, Q (.panic c) (a.put (some d) v) w → Q (.panic c) a w) (hg : True = True) (hS : S w)
    (hx : ev n f x = .int kd a) (hy : ev n f y = .int kd b) (hT : b < a → WH P l.toArray Q S k n fuel listed' (upd f d (.bool true)) w) (hF : a ≤ b → WH P l.toArray Q S k n fuel listed' (upd f d (.bool false)) w) : WH P l.toArray Q S k n (fuel + 1) listed f w := by
  rcases Classical.em (b < a) with h | h
  · exact d_take hi hb hl (hQ _) rfl hS (fun _ _ => r_gtrT hx hy h) (hT h)
  · exact d_take hi hb hl (hQ _) rfl hS (fun _ _ => r_gtrF hx hy (by omega)) (hF (by omega))
theorem dt_gtrG {l : List Oper} {i fuel : Nat} {listed listed' : Array Bool} {d : Tmp} {ty t t' : TypeId} {pos : String} {af : Array Edge} {x y : Operand} {kd : IntKind} {a b : Int} {j : Nat} {want : Bool} 
    (hi : l[i]? = some ⟨some d, .binOp .gtr t x y t', ty, pos, af, some (j, want)⟩) (hb : okB l.toArray listed k i = true) (hl : listed.setIfInBounds i true = listed') (hQ : ∀ (v : Value) c (a : Act) w, Q (.panic c) (a.put (some d) v) w → Q (.panic c) a w) (dj : Tmp) (hj : (l[j]?).bind (·.dst) = some dj) (hv : ev n f (.tmp dj) = .bool want) (hS : S w)
    (hx : ev n f x = .int kd a) (hy : ev n f y = .int kd b) (hT : b < a → WH P l.toArray Q S k n fuel listed' (upd f d (.bool true)) w) (hF : a ≤ b → WH P l.toArray Q S k n fuel listed' (upd f d (.bool false)) w) : WH P l.toArray Q S k n (fuel + 1) listed f w := by
  rcases Classical.em (b < a) with h | h
  · exact d_takeG dj hi hb hl (hQ _) rfl hj hv hS (fun _ _ => r_gtrT hx hy h) (hT h)
  · exact d_takeG dj hi hb hl (hQ _) rfl hj hv hS (fun _ _ => r_gtrF hx hy (by omega)) (hF (by omega))
theorem dt_leq {l : List Oper} {i fuel : Nat} {listed listed' : Array Bool} {d : Tmp} {ty t t' : TypeId} {pos : String} {af : Array Edge} {x y : Operand} {kd : IntKind} {a b : Int} 
    (hi : l[i]? = some ⟨some d, .binOp .leq t x y t', ty, pos, af, none⟩) (hb : okB l.toArray listed k i = true) (hl : listed.setIfInBounds i true = listed') (hQ : ∀ (v : Value) c (a : Act) w, Q (.panic c) (a.put (some d) v) w → Q (.panic c) a w) (hg : True = True) (hS : S w)
    (hx : ev n f x = .int kd a) (hy : ev n f y = .int kd b) (hT : a ≤ b → WH P l.toArray Q S k n fuel listed' (upd f d (.bool true)) w) (hF : b < a → WH P l.toArray Q S k n fuel listed' (upd f d (.bool false)) w) : WH P l.toArray Q S k n (fuel + 1) listed f w := by
  rcases Classical.em (a ≤ b) with h | h
  · exact d_take hi hb hl (hQ _) rfl hS (fun _ _ => r_leqT hx hy h) (hT h)
  · exact d_take hi hb hl (hQ _) rfl hS (fun _ _ => r_leqF hx hy (by omega)) (hF (by omega))
theorem dt_leqG {l : List Oper} {i fuel : Nat} {listed listed' : Array Bool} {d : Tmp} {ty t t' : TypeId} {pos : String} {af : Array Edge} {x y : Operand} {kd : IntKind} {a b : Int} {j : Nat} {want : Bool} 
    (hi : l[i]? = some ⟨some d, .binOp .leq t x y t', ty, pos, af, some (j, want)⟩) (hb : okB l.toArray listed k i = true) (hl : listed.setIfInBounds i true = listed') (hQ : ∀ (v : Value) c (a : Act) w, Q (.panic c) (a.put (some d) v) w → Q (.panic c) a w) (dj : Tmp) (hj : (l[j]?).bind (·.dst) = some dj) (hv : ev n f (.tmp dj) = .bool want) (hS : S w)
    (hx : ev n f x = .int kd a) (hy : ev n f y = .int kd b) (hT : a ≤ b → WH P l.toArray Q S k n fuel listed' (upd f d (.bool true)) w) (hF : b < a → WH P l.toArray Q S k n fuel listed' (upd f d (.bool false)) w) : WH P l.toArray Q S k n (fuel + 1) listed f w := by
  rcases Classical.em (a ≤ b) with h | h
  · exact d_takeG dj hi hb hl (hQ _) rfl hj hv hS (fun _ _ => r_leqT hx hy h) (hT h)
  · exact d_takeG dj hi hb hl (hQ _) rfl hj hv hS (fun _ _ => r_leqF hx hy (by omega)) (hF (by omega))
theorem dt_geq {l : List Oper} {i fuel : Nat} {listed listed' : Array Bool} {d : Tmp} {ty t t' : TypeId} {pos : String} {af : Array Edge} {x y : Operand} {kd : IntKind} {a b : Int} 
    (hi : l[i]? = some ⟨some d, .binOp .geq t x y t', ty, pos, af, none⟩) (hb : okB l.toArray listed k i = true) (hl : listed.setIfInBounds i true = listed') (hQ : ∀ (v : Value) c (a : Act) w, Q (.panic c) (a.put (some d) v) w → Q (.panic c) a w) (hg : True = True) (hS : S w)
    (hx : ev n f x = .int kd a) (hy : ev n f y = .int kd b) (hT : b ≤ a → WH P l.toArray Q S k n fuel listed' (upd f d (.bool true)) w) (hF : a < b → WH P l.toArray Q S k n fuel listed' (upd f d (.bool false)) w) : WH P l.toArray Q S k n (fuel + 1) listed f w := by
  rcases Classical.em (b ≤ a) with h | h
  · exact d_take hi hb hl (hQ _) rfl hS (fun _ _ => r_geqT hx hy h) (hT h)
  · exact d_take hi hb hl (hQ _) rfl hS (fun _ _ => r_geqF hx hy (by omega)) (hF (by omega))
theorem dt_geqG {l : List Oper} {i fuel : Nat} {listed listed' : Array Bool} {d : Tmp} {ty t t' : TypeId} {pos : String} {af : Array Edge} {x y : Operand} {kd : IntKind} {a b : Int} {j : Nat} {want : Bool} 
    (hi : l[i]? = some ⟨some d, .binOp .geq t x y t', ty, pos, af, some (j, want)⟩) (hb : okB l.toArray listed k i = true) (hl : listed.setIfInBounds i true = listed') (hQ : ∀ (v : Value) c (a : Act) w, Q (.panic c) (a.put (some d) v) w → Q (.panic c) a w) (dj : Tmp) (hj : (l[j]?).bind (·.dst) = some dj) (hv : ev n f (.tmp dj) = .bool want) (hS : S w)
    (hx : ev n f x = .int kd a) (hy : ev n f y = .int kd b) (hT : b ≤ a → WH P l.toArray Q S k n fuel listed' (upd f d (.bool true)) w) (hF : a < b → WH P l.toArray Q S k n fuel listed' (upd f d (.bool false)) w) : WH P l.toArray Q S k n (fuel + 1) listed f w := by
  rcases Classical.em (b ≤ a) with h | h
  · exact d_takeG dj hi hb hl (hQ _) rfl hj hv hS (fun _ _ => r_geqT hx hy h) (hT h)
  · exact d_takeG dj hi hb hl (hQ _) rfl hj hv hS (fun _ _ => r_geqF hx hy (by omega)) (hF (by omega))
theorem dt_eql {l : List Oper} {i fuel : Nat} {listed listed' : Array Bool} {d : Tmp} {ty t t' : TypeId} {pos : String} {af : Array Edge} {x y : Operand} {kd : IntKind} {a b : Int} 
    (hi : l[i]? = some ⟨some d, .binOp .eql t x y t', ty, pos, af, none⟩) (hb : okB l.toArray listed k i = true) (hl : listed.setIfInBounds i true = listed') (hQ : ∀ (v : Value) c (a : Act) w, Q (.panic c) (a.put (some d) v) w → Q (.panic c) a w) (hg : True = True) (hS : S w)
    (hx : ev n f x = .int kd a) (hy : ev n f y = .int kd b) (hT : a = b → WH P l.toArray Q S k n fuel listed' (upd f d (.bool true)) w) (hF : a ≠ b → WH P l.toArray Q S k n fuel listed' (upd f d (.bool false)) w) : WH P l.toArray Q S k n (fuel + 1) listed f w := by
  rcases Classical.em (a = b) with h | h
  · exact d_take hi hb hl (hQ _) rfl hS (fun _ _ => r_eqlT hx hy h) (hT h)
  · exact d_take hi hb hl (hQ _) rfl hS (fun _ _ => r_eqlF hx hy (by omega)) (hF (by omega))
theorem dt_eqlG {l : List Oper} {i fuel : Nat} {listed listed' : Array Bool} {d : Tmp} {ty t t' : TypeId} {pos : String} {af : Array Edge} {x y : Operand} {kd : IntKind} {a b : Int} {j : Nat} {want : Bool} 
    (hi : l[i]? = some ⟨some d, .binOp .eql t x y t', ty, pos, af, some (j, want)⟩) (hb : okB l.toArray listed k i = true) (hl : listed.setIfInBounds i true = listed') (hQ : ∀ (v : Value) c (a : Act) w, Q (.panic c) (a.put (some d) v) w → Q (.panic c) a w) (dj : Tmp) (hj : (l[j]?).bind (·.dst) = some dj) (hv : ev n f (.tmp dj) = .bool want) (hS : S w)
    (hx : ev n f x = .int kd a) (hy : ev n f y = .int kd b) (hT : a = b → WH P l.toArray Q S k n fuel listed' (upd f d (.bool true)) w) (hF : a ≠ b → WH P l.toArray Q S k n fuel listed' (upd f d (.bool false)) w) : WH P l.toArray Q S k n (fuel + 1) listed f w := by
  rcases Classical.em (a = b) with h | h
  · exact d_takeG dj hi hb hl (hQ _) rfl hj hv hS (fun _ _ => r_eqlT hx hy h) (hT h)
  · exact d_takeG dj hi hb hl (hQ _) rfl hj hv hS (fun _ _ => r_eqlF hx hy (by omega)) (hF (by omega))
theorem dt_neq {l : List Oper} {i fuel : Nat} {listed listed' : Array Bool} {d : Tmp} {ty t t' : TypeId} {pos : String} {af : Array Edge} {x y : Operand} {kd : IntKind} {a b : Int} 
    (hi : l[i]? = some ⟨some d, .binOp .neq t x y t', ty, pos, af, none⟩) (hb : okB l.toArray listed k i = true) (hl : listed.setIfInBounds i true = listed') (hQ : ∀ (v : Value) c (a : Act) w, Q (.panic c) (a.put (some d) v) w → Q (.panic c) a w) (hg : True = True) (hS : S w)
    (hx : ev n f x = .int kd a) (hy : ev n f y = .int kd b) (hT : a ≠ b → WH P l.toArray Q S k n fuel listed' (upd f d (.bool true)) w) (hF : a = b → WH P l.toArray Q S k n fuel listed' (upd f d (.bool false)) w) : WH P l.toArray Q S k n (fuel + 1) listed f w := by
  rcases Classical.em (a ≠ b) with h | h
  · exact d_take hi hb hl (hQ _) rfl hS (fun _ _ => r_neqT hx hy h) (hT h)
  · exact d_take hi hb hl (hQ _) rfl hS (fun _ _ => r_neqF hx hy (by omega)) (hF (by omega))
theorem dt_neqG {l : List Oper} {i fuel : Nat} {listed listed' : Array Bool} {d : Tmp} {ty t t' : TypeId} {pos : String} {af : Array Edge} {x y : Operand} {kd : IntKind} {a b : Int} {j : Nat} {want : Bool} 
    (hi : l[i]? = some ⟨some d, .binOp .neq t x y t', ty, pos, af, some (j, want)⟩) (hb : okB l.toArray listed k i = true) (hl : listed.setIfInBounds i true = listed') (hQ : ∀ (v : Value) c (a : Act) w, Q (.panic c) (a.put (some d) v) w → Q (.panic c) a w) (dj : Tmp) (hj : (l[j]?).bind (·.dst) = some dj) (hv : ev n f (.tmp dj) = .bool want) (hS : S w)
    (hx : ev n f x = .int kd a) (hy : ev n f y = .int kd b) (hT : a ≠ b → WH P l.toArray Q S k n fuel listed' (upd f d (.bool true)) w) (hF : a = b → WH P l.toArray Q S k n fuel listed' (upd f d (.bool false)) w) : WH P l.toArray Q S k n (fuel + 1) listed f w := by
  rcases Classical.em (a ≠ b) with h | h
  · exact d_takeG dj hi hb hl (hQ _) rfl hj hv hS (fun _ _ => r_neqT hx hy h) (hT h)
  · exact d_takeG dj hi hb hl (hQ _) rfl hj hv hS (fun _ _ => r_neqF hx hy (by omega)) (hF (by omega))
theorem rl_all {d : Tmp} {ty t : TypeId} {pos : String} {af : Array Edge} {x : Operand} {gd : Option (Nat × Bool)} {u : TypeDesc} {a : Addr} {b : Nat} {arr : Array Value} {T : TypeId} {fr : Nat × Nat} {zv : Value} {size bytes : Nat} (ht : P.underlying t = some u) (hu : aggB u = true) (hI : TI P t zv size bytes) (hx : ev n f x = .pointer (some a))
    (hb : w.heap[b]? = some (.cells arr T fr)) (ha : a = ⟨b, 0, none⟩) (hl : arr.size = size) : (execOp (ev n f) ⟨some d, .load t x, ty, pos, af, gd⟩).run P w = .ok (.value (.agg arr)) w := by
  have h := r_loadN (P := P) (d := d) (ty := ty) (pos := pos) (af := af) (gd := gd) (cs := arr.toList) ht hu hI hx (by simpa using hl) (cellsB hb ha (by rw [List.drop_zero, List.take_length]))
  rw [show arr.toList.toArray = arr from by simp] at h
  exact h
theorem e_cells {fn : Func} {R : Ending → World → Prop} {v : Value} (hr : (results fn (act n f).tmps).run P w = .ok v w) (h : R (.returned v) w) : bodyPost P fn R .ret (act n f) w := bodyPost_ret (v := v) hr rfl h
end
end Go.GV
