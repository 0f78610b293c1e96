/- A part of the proof that the row of the law holds of the program as translated: lemmas and contracts of its functions. -/
import Derived.Test.YtbigpfenlmfhgaaGvU
set_option linter.unusedVariables false
set_option linter.unusedSimpArgs false
namespace Go.GV
/-! ### 20. Struct literals, bytes as a string, a constant string's bytes, functions as values -/
/-- Where a struct's fields lie. -/
def PL (P : Program) (t : TypeId) (places : Array (Nat × Nat)) : Prop := ∃ fs, P.underlying t = some (.struct fs) ∧ ∀ w : World, ((fs.mapM (fun f => do pure (f.offset, ← sizeOf f.type)) : Sem (Array (Nat × Nat))).run P w = .ok places w)
section
variable {P : Program} {ops : Array Oper} {Q : Exit → Act → World → Prop} {rest : List Oper} {n : Nat} {f : Fr} {w : World} {L : Hp}
variable {d : Tmp} {ty t t' : TypeId} {pos : String} {af : Array Edge} {x y z : Operand} {gd : Option (Nat × Bool)}
theorem r_build {parts : List (Nat × Operand)} {vs : List (Nat × Value)} {places : Array (Nat × Nat)} {cells : Array Value} {zv : Value} {size bytes : Nat} (hI : TI P t zv size bytes) (hp : PL P t places)
    (hv : parts.map (fun p => (p.1, ev n f p.2)) = vs) (hf : Instr.fill (places[·]?) zv.cells vs = some cells) : (execOp (ev n f) ⟨some d, .build t parts.toArray, ty, pos, af, gd⟩).run P w = .ok (.value (.agg cells)) w := by
  obtain ⟨fs, ht, hpl⟩ := hp
  subst hv
  have hr := run_build' (P := P) (t := t) (w := w) (parts := (parts.map (fun p => (p.1, ev n f p.2))).toArray) ht hI (hpl w) (by simpa using hf)
  have hcl : (parts.toArray.map fun (i, x) => (i, ev n f x)) = (parts.map (fun p => (p.1, ev n f p.2))).toArray := by simp
  simp only [execOp, Sem.run_bind]
  rw [hcl, hr]
  rfl
theorem s_build {parts : List (Nat × Operand)} {vs : List (Nat × Value)} {places : Array (Nat × Nat)} {cells : Array Value} {zv : Value} {size bytes : Nat} (hI : TI P t zv size bytes) (hp : PL P t places)
    (hv : parts.map (fun p => (p.1, ev n f p.2)) = vs) (hf : Instr.fill (places[·]?) zv.cells vs = some cells) (k : wpList P ops Q rest (act n (upd f d (.agg cells))) w) : wpList P ops Q (⟨some d, .build t parts.toArray, ty, pos, af, none⟩ :: rest) (act n f) w :=
  s_val rfl (r_build hI hp hv hf) k
/-- The string of bytes. -/
def strOf (bs : List UInt8) : ByteArray := ⟨bs.toArray⟩
theorem strOf_inj {as bs : List UInt8} : strOf as = strOf bs ↔ as = bs := by simp [strOf]
theorem fold_push : ∀ (bs : List UInt8) (s : ByteArray), (bs.map (fun b => (b.toNat : Int))).foldl (fun r n => r.push (UInt8.ofNat n.toNat)) s = ⟨s.data ++ bs.toArray⟩
  | [], s => by simp
  | b :: bs, s => by
    simp only [List.map_cons, List.foldl_cons]
    rw [fold_push bs]
    congr 1
    apply Array.ext'
    simp [ByteArray.push]
theorem r_b2s {src dst e : TypeId} {a : Option Addr} {c : Nat} {bs : List UInt8} (hs : P.underlying src = some (.slice e)) (he : P.underlying e = some (.int .u8)) (hd : P.underlying dst = some .string) (hx : ev n f x = .slice a bs.length c) (hR : Cs w a (fl eB bs)) :
    (execOp (ev n f) ⟨some d, .convert src dst x, ty, pos, af, gd⟩).run P w = .ok (.value (.string (strOf bs))) w := by
  have h : (convert src dst (.slice a bs.length c)).run P w = .ok (.string (strOf bs)) w := by
    rw [run_convert_bytes_string w src dst e a bs.length c hs he hd]
    rcases a with _ | ad
    · have : bs = [] := by
        rcases hR with h | ⟨ad, h, _⟩
        · exact fl_eq_nil eB_len (by decide) h
        · cases h
      subst this
      rfl
    · have hc : ∀ j u, (fl eB bs)[j]? = some u → w.cell? (ad.add j) = some u := by
        intro j u hu
        rcases hR with h | ⟨ad', e, h⟩
        · rw [h] at hu; simp at hu
        · injection e with e; subst e; exact h j u hu
      have h5 := run_loadCells_list (P := P) (w := w) ad (fl eB bs) hc
      rw [flB_len, fl_eB] at h5
      have h6 := run_bytesToString (P := P) w ad bs.length c (bs.map (fun b => (b.toNat : Int))) (by rw [List.map_map]; exact h5)
      rw [h6, fold_push]
      simp [strOf]
  simp [execOp, hx, h]
theorem s_b2s {src dst e : TypeId} {a : Option Addr} {c : Nat} {bs : List UInt8} (hs : P.underlying src = some (.slice e)) (he : P.underlying e = some (.int .u8)) (hd : P.underlying dst = some .string) (hx : ev n f x = .slice a bs.length c) (hR : Cs w a (fl eB bs))
    (k : wpList P ops Q rest (act n (upd f d (.string (strOf bs)))) w) : wpList P ops Q (⟨some d, .convert src dst x, ty, pos, af, none⟩ :: rest) (act n f) w :=
  s_val rfl (r_b2s hs he hd hx hR) k
/-- []byte of a constant string: its row is marked. -/
theorem s_mark {e T : TypeId} {i b m c : Nat} {C : Array Value} (ht : P.underlying t = some (.slice e)) (he : P.underlying e = some (.int .u8)) (hx : ev n f x = .slice (some ⟨b, 0, none⟩) m c) (hO : Own w L) (hi : L[i]? = some (b, .cells C T (0, 0)))
    (k : ∀ w', Own w' (L.set i (b, .cells C T (C.size, C.size + 1))) → Ext w L w' (L.set i (b, .cells C T (C.size, C.size + 1))) → wpList P ops Q rest (act n (upd f d (.slice (some ⟨b, 0, none⟩) m c))) w') :
    wpList P ops Q (⟨some d, .convert t t x, ty, pos, af, none⟩ :: rest) (act n f) w := by
  have hb := hO.get hi
  have hsh : w.shape? b = some (T, C.size) := by unfold World.shape?; rw [hb]
  have hfz : ∀ j, (w.freeze ⟨b, C.size, none⟩ 1).heap[j]? = if j = b then some (.cells C T (C.size, C.size + 1)) else w.heap[j]? := by
    intro j
    unfold World.freeze
    rw [if_neg (by decide)]
    simp only [Array.getElem?_modify]
    by_cases hj : b = j
    · subst hj
      simp [hb]
    · simp [hj, Ne.symm hj]
  refine s_val (v := .slice (some ⟨b, 0, none⟩) m c) (w' := w.freeze ⟨b, C.size, none⟩ 1) rfl ?_ (k _ ?_ ?_)
  · simp [execOp, hx, convert, run_underlying ht, run_underlying he, markStringish, hsh]
  · exact own_setAt hO hi (by rw [hfz]; simp) (fun j hj => by rw [hfz]; simp [hj])
  · refine ext_setAt hi ?_ ?_ ?_ ?_ (fun j hj => by rw [hfz]; simp [hj])
    all_goals (unfold World.freeze; rw [if_neg (by decide)]; try simp)
theorem s_makeFunc {fn : Fn} {first captured : List Operand} {fv cv : List Value} (hf : first.map (ev n f) = fv) (hc : captured.map (ev n f) = cv) (k : wpList P ops Q rest (act n (upd f d (.func fn fv.toArray cv.toArray))) w) :
    wpList P ops Q (⟨some d, .makeFunc fn first.toArray captured.toArray, ty, pos, af, none⟩ :: rest) (act n f) w :=
  s_val rfl (by subst hf; subst hc; simp [execOp, Instr.makeFunc]) k
/-- A function value is called. -/
theorem s_callV {g : FuncId} {fv cv : List Value} {l : List Operand} {vs : List Value} {dst : Option Tmp} {ats : Array TypeId} {R : Ending → World → Prop} (hcf : ∀ args w, (callFunc g args).run P w = .ok (.enter g args) w) (hx : ev n f x = .func (.func g) fv.toArray cv.toArray) (ha : l.map (ev n f) = vs)
    (hc : Calls P g (fv ++ vs ++ cv).toArray w R) (hk : ∀ e w', R e w' → ∃ v, e = .returned v ∧ wpList P ops Q rest (act n (pt f dst v)) w') :
    wpList P ops Q (⟨dst, .call { callee := .value x, args := l.toArray, argTypes := ats }, ty, pos, af, none⟩ :: rest) (act n f) w := by
  refine wpList_plain rfl fun K hK => ?_
  unfold Oper.wp
  rw [act_eval]
  have he : (execOp (ev n f) ⟨dst, .call { callee := .value x, args := l.toArray, argTypes := ats }, ty, pos, af, none⟩).run P w = .ok (.enter g (fv ++ vs ++ cv).toArray) w := by
    subst ha
    simp [execOp, resolve, invoke, hx, Deferred.ofValue, hcf]
  rw [he]
  refine Calls.mono hc fun e w' hR => ?_
  obtain ⟨v, rfl, h⟩ := hk e w' hR
  exact hK _ _ (by rw [act_put]; exact h)
end
end Go.GV
