/- A part of the proof that the row of the law holds of the program as translated: lemmas and contracts of its functions. -/
import Derived.Test.YtbigpfenlmfhgaaGvC
import Derived.ChangeKeysEq
import Derived.Laws.Cells
import Derived.Laws.CopyRow
import Derived.Laws.MakeOwn
import Derived.Laws.IdiomCopy
import Derived.Conc.MuLone
set_option linter.unusedVariables false
set_option linter.unusedSimpArgs false
namespace Go.GV
/-- A type's zero value, its cells, its bytes. -/
def TI (P : Program) (t : TypeId) (z : Value) (size bytes : Nat) : Prop := (P.info? t).map (fun i => (i.zero, i.size, i.bytes)) = some (some z, size, bytes)
section
variable {P : Program} {ops : Array Oper} {Q : Exit → Act → World → Prop} {rest : List Oper} {n : Nat} {f : Fr} {w : World} {L : Hp}
variable {d : Tmp} {ty t t' : TypeId} {pos : String} {af : Array Edge} {x y z : Operand}
theorem TI.get {zv : Value} {size bytes : Nat} (h : TI P t zv size bytes) : ∃ i, P.info? t = some i ∧ i.zero = some zv ∧ i.size = size ∧ i.bytes = bytes := by
  obtain ⟨i, hi, he⟩ := Option.map_eq_some_iff.1 h
  simp only [Prod.mk.injEq] at he
  exact ⟨i, hi, he.1, he.2.1, he.2.2⟩
theorem TI.sizeOf {zv : Value} {size bytes : Nat} (h : TI P t zv size bytes) : (sizeOf t).run P w = .ok size w := by
  obtain ⟨i, hi, _, hs, _⟩ := h.get
  simp [Go.sizeOf, typeInfo, hi, hs]
theorem TI.zeroOf {zv : Value} {size bytes : Nat} (h : TI P t zv size bytes) : (zeroValue t).run P w = .ok zv w := by
  obtain ⟨i, hi, hz, _, _⟩ := h.get
  simp [Go.zeroValue, typeInfo, hi, hz]
/-! ### 8. Blocks: laid, read, written -/
theorem s_box {v : Value} (hx : ev n f x = v) (hO : Own w L)
    (k : ∀ b w', w.heap.size = b → b < w'.heap.size → Own w' ((b, .cells v.cells t (0, 0)) :: L) → Ext w L w' ((b, .cells v.cells t (0, 0)) :: L) → wpList P ops Q rest (act n (upd f d (.pointer (some ⟨b, 0, none⟩)))) w') :
    wpList P ops Q (⟨some d, .box t x, ty, pos, af, none⟩ :: rest) (act n f) w :=
  s_val (v := .pointer (some ⟨w.heap.size, 0, none⟩)) (w' := w.alloc (.cells v.cells t)) rfl (by simp [execOp, hx, Instr.box, newVar, newRow, newObj]; rfl) (k _ _ rfl (by simp) (own_new hO _) (ext_new w L _))
theorem s_alloc {zv : Value} {size bytes : Nat} (hI : TI P t zv size bytes) (hO : Own w L)
    (k : ∀ b w', w.heap.size = b → b < w'.heap.size → Own w' ((b, .cells zv.cells t (0, 0)) :: L) → Ext w L w' ((b, .cells zv.cells t (0, 0)) :: L) → wpList P ops Q rest (act n (upd f d (.pointer (some ⟨b, 0, none⟩)))) w') :
    wpList P ops Q (⟨some d, .alloc t, ty, pos, af, none⟩ :: rest) (act n f) w :=
  s_val (v := .pointer (some ⟨w.heap.size, 0, none⟩)) (w' := w.alloc (.cells zv.cells t)) rfl (by
    have h := hI.zeroOf (w := w)
    simp [execOp, Instr.alloc, h, newVar, newRow, newObj]; rfl) (k _ _ rfl (by simp) (own_new hO _) (ext_new w L _))
theorem s_fieldAddr {a : Addr} {fs : Array Field} {i : Nat} {fd : Field} {zv : Value} {size bytes : Nat} (hs : P.underlying t = some (.struct fs)) (hf : fs[i]? = some fd) (hI : TI P fd.type zv size bytes) (hne : size ≠ 0)
    (hx : ev n f x = .pointer (some a)) (k : wpList P ops Q rest (act n (upd f d (.pointer (some (a.add fd.offset))))) w) : wpList P ops Q (⟨some d, .fieldAddr t x i, ty, pos, af, none⟩ :: rest) (act n f) w :=
  s_val rfl (by
    have h := hI.sizeOf (w := w)
    simp [execOp, hx, Instr.fieldAt, run_underlying hs, hf, Instr.sureAddr, fieldPlace, h, hne]) k
def aggB : TypeDesc → Bool
  | .struct _ | .array _ _ => true
  | _ => false
theorem run_isAgg {u : TypeDesc} (ht : P.underlying t = some u) : (isAgg t).run P w = .ok (aggB u) w := by
  simp only [isAgg, Sem.run_bind, run_underlying ht, Result.andThen_ok]
  cases u <;> simp [aggB]
theorem run_load1 {u : TypeDesc} {a : Addr} {v : Value} (ht : P.underlying t = some u) (hu : aggB u = false) (hc : w.cell? a = some v) : (loadVar t a).run P w = .ok v w := by
  simp only [loadVar, Sem.run_bind, run_isAgg ht, Result.andThen_ok, hu]
  simp [load, Sem.run, hc]
theorem s_load1 {u : TypeDesc} {a : Addr} {v : Value} (ht : P.underlying t = some u) (hu : aggB u = false) (hx : ev n f x = .pointer (some a)) (hc : w.cell? a = some v)
    (k : wpList P ops Q rest (act n (upd f d v)) w) : wpList P ops Q (⟨some d, .load t x, ty, pos, af, none⟩ :: rest) (act n f) w :=
  s_val rfl (by
    have h := run_load1 (w := w) ht hu hc
    simp [execOp, hx, Instr.loadAt, Instr.sureAddr, h]) k
theorem s_loadN {u : TypeDesc} {a : Addr} {cs : List Value} {zv : Value} {size bytes : Nat} (ht : P.underlying t = some u) (hu : aggB u = true) (hI : TI P t zv size bytes) (hx : ev n f x = .pointer (some a))
    (hl : cs.length = size) (hc : ∀ i v, cs[i]? = some v → w.cell? (a.add i) = some v)
    (k : wpList P ops Q rest (act n (upd f d (.agg cs.toArray))) w) : wpList P ops Q (⟨some d, .load t x, ty, pos, af, none⟩ :: rest) (act n f) w :=
  s_val rfl (by
    have h1 := hI.sizeOf (w := w)
    have h2 := run_loadCells_list (P := P) (w := w) a cs hc
    rw [hl] at h2
    simp [execOp, hx, Instr.loadAt, Instr.sureAddr, loadVar, run_isAgg ht, hu, h1, h2]) k
/-- The cells of a block of one's own. -/
theorem cells_at {b o : Nat} {arr : Array Value} {T : TypeId} {fr : Nat × Nat} (hb : w.heap[b]? = some (.cells arr T fr)) {cs : List Value} (hcs : (arr.toList.drop o).take cs.length = cs) : ∀ i v, cs[i]? = some v → w.cell? ((⟨b, o, none⟩ : Addr).add i) = some v := by
  intro i v hv
  have e : (⟨b, o, none⟩ : Addr).add i = ⟨b, o + i, none⟩ := by unfold Addr.add; split <;> simp_all
  have hi := (List.getElem?_eq_some_iff.1 hv).1
  rw [e, cell_row hb]
  rw [← hcs, List.getElem?_take_of_lt hi, List.getElem?_drop] at hv
  simpa using hv
theorem Own.get {i b : Nat} {o : Obj} (h : Own w L) (hi : L[i]? = some (b, o)) : w.heap[b]? = some o := h.at_ (b, o) (List.mem_of_getElem? hi)
/-- A block at a place of the list turns. -/
theorem set_perm {i b : Nat} {o o' : Obj} (hi : L[i]? = some (b, o)) : ∃ A B, L = A ++ (b, o) :: B ∧ L.set i (b, o') = A ++ (b, o') :: B := by
  have hl := (List.getElem?_eq_some_iff.1 hi).1
  have he := (List.getElem?_eq_some_iff.1 hi).2
  refine ⟨L.take i, L.drop (i + 1), ?_, ?_⟩
  · rw [← he, List.getElem_cons_drop, List.take_append_drop]
  · exact List.set_eq_take_append_cons_drop.trans (if_pos hl)
theorem own_setAt {w' : World} {i b : Nat} {o o' : Obj} (h : Own w L) (hi : L[i]? = some (b, o)) (hb : w'.heap[b]? = some o') (hk : ∀ j, j ≠ b → w'.heap[j]? = w.heap[j]?) : Own w' (L.set i (b, o')) := by
  obtain ⟨A, B, e1, e2⟩ := set_perm (o' := o') hi
  rw [e2]
  subst e1
  exact (own_put (h.perm List.perm_middle) hb hk).perm List.perm_middle.symm
theorem ks_set {i b : Nat} {o o' : Obj} (hi : L[i]? = some (b, o)) : ks (L.set i (b, o')) = ks L := by
  obtain ⟨A, B, e1, e2⟩ := set_perm (o' := o') hi
  rw [e2, e1]
  simp [ks]
theorem ext_setAt {w' : World} {i b : Nat} {o o' : Obj} (hi : L[i]? = some (b, o)) (h1 : w'.os = w.os) (h2 : w'.tape = w.tape) (h3 : w'.output = w.output) (hs : w'.heap.size = w.heap.size) (hk : ∀ j, j ≠ b → w'.heap[j]? = w.heap[j]?) :
    Ext w L w' (L.set i (b, o')) :=
  ⟨h1, h2, h3, by omega, fun j _ hn => hk j (fun e => hn (by rw [e]; exact List.mem_map.2 ⟨(b, o), List.mem_of_getElem? hi, rfl⟩)), fun j hj => .inl (by rwa [ks_set hi] at hj)⟩
def oc (v : Value) : Bool := v.oneCell'
theorem s_store1 {i b o : Nat} {a : Addr} {v : Value} {arr : Array Value} {T : TypeId} {zv : Value} {bytes : Nat} (hI : TI P t zv 1 bytes) (hx : ev n f x = .pointer (some a)) (hy : ev n f y = v) (ha : a = ⟨b, o, none⟩) (hO : Own w L)
    (hi : L[i]? = some (b, .cells arr T (0, 0))) (ho : (arr[o]?).isSome = true) (hv : v.oneCell' = true)
    (k : ∀ w', Own w' (L.set i (b, .cells (arr.setIfInBounds o v) T (0, 0))) → Ext w L w' (L.set i (b, .cells (arr.setIfInBounds o v) T (0, 0))) → wpList P ops Q rest (act n f) w') :
    wpList P ops Q (⟨none, .store t x y, ty, pos, af, none⟩ :: rest) (act n f) w := by
  subst ha
  have hb := hO.get hi
  obtain ⟨u, hu⟩ := Option.isSome_iff_exists.1 ho
  have hc : w.cell? ⟨b, o, none⟩ = some u := (cell_row hb o).trans hu
  have hfz : w.frozen? ⟨b, o, none⟩ = false := by simp [World.frozen?, hb]
  have hk1 : ∀ j, j ≠ b → (w.setCell ⟨b, o, none⟩ v).heap[j]? = w.heap[j]? := fun j hj => heap_setCell_other w ⟨b, o, none⟩ j v hj
  refine s_unit (w' := w.setCell ⟨b, o, none⟩ v) rfl ?_ (k _ (own_setAt hO hi (by simp [World.setCell, Array.getElem?_modify, hb]) hk1) (ext_setAt hi rfl rfl rfl (by simp) hk1))
  have h1 := hI.sizeOf (w := w)
  have hcs : v.cells = #[v] := by cases v <;> simp_all [Value.cells, Value.oneCell']
  cases v <;> simp_all [execOp, Instr.storeAt, Instr.sureAddr, storeVar, storeCells, store, Sem.run, Addr.add, Value.oneCell', Value.cells]
/-! ### 9. Calls -/
theorem s_call {g : FuncId} {l : List Operand} {vs : List Value} {dst : Option Tmp} {ats : Array TypeId} {R : Ending → World → Prop} (hcf : ∀ args w, (callFunc g args).run P w = .ok (.enter g args) w) (ha : l.map (ev n f) = vs)
    (hc : Calls P g vs.toArray w R) (hk : ∀ e w', R e w' → ∃ v, e = .returned v ∧ wpList P ops Q rest (act n (pt f dst v)) w') :
    wpList P ops Q (⟨dst, .call { callee := .value (.func g), args := l.toArray, argTypes := ats }, ty, pos, af, none⟩ :: rest) (act n f) w := by
  refine wpList_plain rfl fun K hK => ?_
  unfold Oper.wp
  rw [act_eval]
  have he : (execOp (ev n f) ⟨dst, .call { callee := .value (.func g), args := l.toArray, argTypes := ats }, ty, pos, af, none⟩).run P w = .ok (.enter g vs.toArray) w := by
    subst ha
    simp [execOp, resolve, invoke, ev, Deferred.ofValue, hcf]
  rw [he]
  refine Calls.mono hc fun e w' hR => ?_
  obtain ⟨v, rfl, h⟩ := hk e w' hR
  exact hK _ _ (by rw [act_put]; exact h)
theorem cf_of {g : FuncId} {fn : Func} {c : Code} (hf : P.funcs[g]? = some fn) (hname : (fn.name == "runtime.NumGoroutine") = false) (hb : fn.body = some c) : ∀ (args : Array Value) (w : World), (callFunc g args).run P w = .ok (.enter g args) w :=
  fun args w => MuLone.run_callFunc_enter hf hname hb args w
end
end Go.GV
