/- A part of the proof that the row of the law holds of the program as translated: lemmas and contracts of its functions. -/
import Derived.Test.YtbigpfenlmfhgaaGvD
import Derived.Deep.OwnRows
set_option linter.unusedVariables false
set_option linter.unusedSimpArgs false
namespace Go.GV
section
variable {P : Program} {ops : Array Oper} {Q : Exit → Act → World → Prop} {rest : List Oper} {n : Nat} {f : Fr} {w : World} {L : Hp}
variable {d : Tmp} {ty t t' : TypeId} {pos : String} {af : Array Edge} {x y z : Operand}
theorem setRow_other (w : World) (g j : Nat) (cs : Array Value) (h : j ≠ g) : (w.setRow g cs).heap[j]? = w.heap[j]? := by
  simp only [World.setRow, Array.getElem?_modify]
  rw [if_neg (fun e => h e.symm)]
theorem setRow_at {w : World} {g : Nat} {cs cur : Array Value} {t : TypeId} {fr : Nat × Nat} (h : w.heap[g]? = some (.cells cur t fr)) : (w.setRow g cs).heap[g]? = some (.cells cs t fr) := by
  simp [World.setRow, Array.getElem?_modify, h]
theorem s_storeN {i b o : Nat} {a : Addr} {vs : Array Value} {arr : Array Value} {T : TypeId} {zv : Value} {bytes : Nat} (hI : TI P t zv vs.size bytes) (hx : ev n f x = .pointer (some a)) (hy : ev n f y = .agg vs) (ha : a = ⟨b, o, none⟩) (hO : Own w L)
    (hi : L[i]? = some (b, .cells arr T (0, 0))) (ho : o + vs.size ≤ arr.size) (hv : ∀ v ∈ vs.toList, v.oneCell' = true)
    (k : ∀ w', Own w' (L.set i (b, .cells (arr.toList.take o ++ vs.toList ++ arr.toList.drop (o + vs.size)).toArray T (0, 0))) → Ext w L w' (L.set i (b, .cells (arr.toList.take o ++ vs.toList ++ arr.toList.drop (o + vs.size)).toArray T (0, 0))) → wpList P ops Q rest (act n f) w') :
    wpList P ops Q (⟨none, .store t x y, ty, pos, af, none⟩ :: rest) (act n f) w := by
  subst ha
  have hb := hO.get hi
  refine s_unit (w' := w.setRow b (arr.toList.take o ++ vs.toList ++ arr.toList.drop (o + vs.size)).toArray) rfl ?_
    (k _ (own_setAt hO hi (setRow_at hb) (fun j hj => setRow_other w b j _ hj)) (ext_setAt hi rfl rfl rfl (by simp [World.setRow]) (fun j hj => setRow_other w b j _ hj)))
  have h1 := hI.sizeOf (w := w)
  have h2 := run_storeCells_at (P := P) b o T vs.toList 0 arr w hb (by simpa using ho) hv
  simp at h2
  simp [execOp, hx, hy, Instr.storeAt, Instr.sureAddr, storeVar, h1, Value.cells, h2]

/-! ### 10. Elements -/
theorem flat_el {size : Nat} : ∀ {css : List (List Value)} (hl : ∀ e ∈ css, e.length = size) {i : Nat} {el : List Value} (hi : css[i]? = some el) {j : Nat} {u : Value}, el[j]? = some u → css.flatten[i * size + j]? = some u
  | [], _, i, el, hi, _, _, _ => by simp at hi
  | c :: css, hl, 0, el, hi, j, u, hu => by
    simp at hi
    subst hi
    simp only [List.flatten_cons, Nat.zero_mul, Nat.zero_add]
    rw [List.getElem?_append_left (List.getElem?_eq_some_iff.1 hu).1]
    exact hu
  | c :: css, hl, i + 1, el, hi, j, u, hu => by
    have hc := hl c (by simp)
    have ih := flat_el (css := css) (fun e he => hl e (by simp [he])) (by simpa using hi) hu
    simp only [List.flatten_cons]
    rw [List.getElem?_append_right (by rw [hc, Nat.succ_mul]; omega), hc]
    have : (i + 1) * size + j - size = i * size + j := by rw [Nat.succ_mul]; omega
    rw [this]
    exact ih
theorem flat_len {size : Nat} : ∀ {css : List (List Value)} (hl : ∀ e ∈ css, e.length = size), css.flatten.length = css.length * size
  | [], _ => by simp
  | c :: css, hl => by
    have hc := hl c (by simp)
    have ih := flat_len (css := css) (fun e he => hl e (by simp [he]))
    simp only [List.flatten_cons, List.length_append, hc, ih, List.length_cons, Nat.succ_mul]
    omega
/-- '&s[i]': an address from which the element's cells are read. -/
theorem s_idx {a : Option Addr} {m c : Nat} {kd : IntKind} {i : Int} {e : TypeId} {zv : Value} {size bytes : Nat} {css : List (List Value)} {el : List Value}
    (ht : P.underlying t = some (.slice e)) (hI : TI P e zv size bytes) (hx : ev n f x = .slice a m c) (hy : ev n f y = .int kd i) (h0 : 0 ≤ i) (h1 : i < m) (hR : Cs w a css.flatten) (hl : ∀ e ∈ css, e.length = size) (hs : 0 < size)
    (hi : css[i.toNat]? = some el)
    (k : ∀ p : Addr, (∀ j u, el[j]? = some u → w.cell? (p.add j) = some u) → wpList P ops Q rest (act n (upd f d (.pointer (some p)))) w) :
    wpList P ops Q (⟨some d, .indexAddr t x y, ty, pos, af, none⟩ :: rest) (act n f) w := by
  have hel : el.length = size := hl el (List.mem_of_getElem? hi)
  obtain ⟨u0, hu0⟩ : ∃ u, el[0]? = some u := ⟨el[0]'(by omega), by simp⟩
  have h0' := flat_el hl hi hu0
  rcases hR with hR | ⟨ad, rfl, hc⟩
  · rw [hR] at h0'; simp at h0'
  · refine s_val rfl ?_ (k (ad.add (i.toNat * size)) fun j u hu => ?_)
    · have h2 := hI.sizeOf (w := w)
      simp [execOp, hx, hy, Instr.indexAt, asIntOf, run_underlying ht, h0, h1, h2]
    · rw [add_add]
      exact hc _ u (flat_el hl hi hu)
/-- '&a[i]' of an array in a variable -/
theorem s_idxArr {a : Addr} {m : Nat} {kd : IntKind} {i : Int} {e : TypeId} {zv : Value} {size bytes : Nat} (ht : P.underlying t = some (.array m e)) (hI : TI P e zv size bytes) (hx : ev n f x = .pointer (some a)) (hy : ev n f y = .int kd i) (h0 : 0 ≤ i) (h1 : i < m)
    (k : wpList P ops Q rest (act n (upd f d (.pointer (some (a.add (i.toNat * size)))))) w) :
    wpList P ops Q (⟨some d, .indexAddr t x y, ty, pos, af, none⟩ :: rest) (act n f) w :=
  s_val rfl (by
    have h2 := hI.sizeOf (w := w)
    simp [execOp, hx, hy, Instr.indexAt, asIntOf, run_underlying ht, Instr.sureAddr, h0, h1, h2]) k
/-- 's[i]' of a string -/
theorem s_idxStr {s : ByteArray} {kd : IntKind} {i : Int} {b : UInt8} (ht : P.underlying t = some .string) (hx : ev n f x = .string s) (hy : ev n f y = .int kd i) (h0 : 0 ≤ i) (hb : s.data.toList[i.toNat]? = some b)
    (k : wpList P ops Q rest (act n (upd f d (.int .u8 b.toNat))) w) : wpList P ops Q (⟨some d, .index t x y, ty, pos, af, none⟩ :: rest) (act n f) w :=
  s_val rfl (by
    have hlt := (List.getElem?_eq_some_iff.1 hb)
    obtain ⟨hl, he⟩ := hlt
    have h2 : s[i.toNat]? = some b := by
      rw [getElem?_pos s i.toNat (by simpa using hl)]
      simp at he
      rw [← he]
      rfl
    simp [execOp, hx, hy, Instr.index, asIntOf, run_underlying ht, h0, h2]) k

/-! ### 11. Cuts -/
theorem s_cut {a : Option Addr} {m c : Nat} {e : TypeId} {zv : Value} {size bytes : Nat} {lo hi mx : Option Operand} {l h q : Nat} (ht : P.underlying t = some (.slice e)) (hI : TI P e zv size bytes) (hx : ev n f x = .slice a m c)
    (hb : (Instr.sliceBounds true m c (lo.map (ev n f)) (hi.map (ev n f)) (mx.map (ev n f))).run P w = .ok (l, h, q) w)
    (k : ∀ a', a' = (if q = l then a else a.map (·.add (l * size))) → wpList P ops Q rest (act n (upd f d (.slice a' (h - l) (q - l)))) w) :
    wpList P ops Q (⟨some d, .slice t x lo hi mx, ty, pos, af, none⟩ :: rest) (act n f) w :=
  s_val rfl (by
    have h2 := hI.sizeOf (w := w)
    simp [execOp, hx, Instr.sliceAt, Instr.slice, run_underlying ht, hb, h2]) (k _ rfl)
theorem sb_h {m c : Nat} {kd : IntKind} {b : Bool} {h : Int} (h0 : 0 ≤ h) (h1 : h ≤ c) : (Instr.sliceBounds b m c none (some (.int kd h)) none).run P w = .ok (0, h.toNat, c) w := by
  have h1' : h ≤ (c : Int) := h1
  simp [Instr.sliceBounds, Instr.sliceBound, asIntOf, h0, h1']
theorem sb_l {m c : Nat} {kd : IntKind} {b : Bool} {l : Int} (h0 : 0 ≤ l) (h1 : l ≤ m) : (Instr.sliceBounds b m c (some (.int kd l)) none none).run P w = .ok (l.toNat, m, c) w := by
  simp [Instr.sliceBounds, Instr.sliceBound, asIntOf, h0, h1]
theorem sb_lh {m c : Nat} {kd kd' : IntKind} {b : Bool} {l h : Int} (h0 : 0 ≤ l) (h1 : l ≤ h) (h2 : h ≤ c) : (Instr.sliceBounds b m c (some (.int kd l)) (some (.int kd' h)) none).run P w = .ok (l.toNat, h.toNat, c) w := by
  have h3 : 0 ≤ h := by omega
  have h4 : l ≤ max h 0 := by omega
  simp [Instr.sliceBounds, Instr.sliceBound, asIntOf, h0, h2, h3, h4]
theorem sb_all {m c : Nat} {b : Bool} : (Instr.sliceBounds b m c none none none).run P w = .ok (0, m, c) w := by
  simp [Instr.sliceBounds]
theorem sb_lhm {m c : Nat} {k1 k2 k3 : IntKind} {b : Bool} {l h q : Int} (h0 : 0 ≤ l) (h1 : l ≤ h) (h2 : h ≤ q) (h3 : q ≤ c) : (Instr.sliceBounds b m c (some (.int k1 l)) (some (.int k2 h)) (some (.int k3 q))).run P w = .ok (l.toNat, h.toNat, q.toNat) w := by
  have h4 : 0 ≤ h := by omega
  have h5 : 0 ≤ q := by omega
  have h6 : h ≤ max q 0 := by omega
  have h7 : l ≤ max h 0 := by omega
  simp [Instr.sliceBounds, Instr.sliceBound, asIntOf, h0, h3, h4, h5, h6, h7]
theorem Rd.cutAt {w : World} {L : Hp} {a a' : Option Addr} {size l q : Nat} {xs ys zs : List Value} (h : Rd w L a (xs ++ ys ++ zs)) (hk : xs.length = l * size) (hq : q = l → ys = []) (ha : a' = (if q = l then a else a.map (·.add (l * size)))) : Rd w L a' ys := by
  subst ha
  split
  · rw [hq ‹_›]; exact Rd.nil _ _ _
  · exact h.part hk
theorem Cs.cutAt {w : World} {a a' : Option Addr} {size l q : Nat} {xs ys zs : List Value} (h : Cs w a (xs ++ ys ++ zs)) (hk : xs.length = l * size) (hq : q = l → ys = []) (ha : a' = (if q = l then a else a.map (·.add (l * size)))) : Cs w a' ys := by
  subst ha
  split
  · rw [hq ‹_›]; exact .inl rfl
  · exact h.part hk
/-- s[l:h] of a string -/
theorem s_cutStr {s : ByteArray} {lo hi : Option Operand} {l h q : Nat} (ht : P.underlying t = some .string) (hx : ev n f x = .string s)
    (hb : (Instr.sliceBounds false s.size s.size (lo.map (ev n f)) (hi.map (ev n f)) none).run P w = .ok (l, h, q) w)
    (k : wpList P ops Q rest (act n (upd f d (.string (s.extract l h)))) w) :
    wpList P ops Q (⟨some d, .slice t x lo hi none, ty, pos, af, none⟩ :: rest) (act n f) w :=
  s_val rfl (by
    simp [execOp, hx, Instr.sliceAt, Instr.slice, run_underlying ht, hb]) k

/-! ### 12. Rows that are made -/
theorem run_buildSlice' {w : World} {e : TypeId} {len : Nat} {parts : Array (Nat × Value)} {cells : Array Value} {zv : Value} {size bytes : Nat} (ht : P.underlying t = some (.slice e)) (hI : TI P e zv size bytes) (hlim : len * size ≤ 2 ^ 24)
    (hf : Instr.fill (fun i => some (i * size, size)) ((Array.range (len * size)).map (zv.cells[· % zv.cells.size]!)) parts.toList = some cells) :
    (Instr.buildSlice t len parts).run P w = .ok (.slice (some ⟨w.heap.size, 0, none⟩) len len) (w.alloc (.cells cells e)) := by
  have h1 := hI.sizeOf (w := w)
  have h2 := hI.zeroOf (w := w)
  have hle : ¬ len * size > 2 ^ 24 := by omega
  by_cases h0 : len * size = 0
  · have he : (Array.range (len * size)).map (zv.cells[· % zv.cells.size]!) = (#[] : Array Value) := by rw [h0]; simp
    rw [he] at hf
    simp only [Instr.buildSlice, Sem.run_bind, run_underlying ht, Result.andThen_ok, h1, hle, if_false, h0, if_true, Sem.run_pure]
    have h3' : (Array.map (fun x => (#[] : Array Value)[x % (#[] : Array Value).size]!) (Array.range 0)) = #[] := by simp
    have h4 : (Array.map (fun _ => (default : Value)) (Array.range 0)) = #[] := by simp [Array.range]
    simp [h4, hf, newRow, newObj]
    rfl
  · simp only [Instr.buildSlice, Sem.run_bind, run_underlying ht, Result.andThen_ok, h1, hle, if_false, h0, h2, Sem.run_pure]
    rw [hf]
    simp [newRow, newObj]
    rfl
theorem fold_set : ∀ (vs : List Value) (off k : Nat) (cells : Array Value), off + k + vs.length ≤ cells.size →
    ((vs.zipIdx k).foldl (fun (cs : Array Value) (p : Value × Nat) => cs.setIfInBounds (off + p.2) p.1) cells).toList = cells.toList.take (off + k) ++ vs ++ cells.toList.drop (off + k + vs.length)
  | [], off, k, cells, _ => by simp
  | v :: vs, off, k, cells, h => by
    have h' : off + (k + 1) + vs.length ≤ (cells.setIfInBounds (off + k) v).size := by simp at h ⊢; omega
    have ih := fold_set vs off (k + 1) (cells.setIfInBounds (off + k) v) h'
    simp only [List.zipIdx_cons, List.foldl_cons]
    rw [ih]
    have e := list_seg_step cells.toList (off + k) v vs (by simp at h ⊢; omega)
    simp only [Array.toList_setIfInBounds]
    have e1 : off + (k + 1) = off + k + 1 := by omega
    rw [e1, e]
    simp [Nat.add_assoc, Nat.add_comm]
def numbered : Nat → List Value → List (Nat × Value)
  | _, [] => []
  | i, v :: vs => (i, v) :: numbered (i + 1) vs
theorem fill_full (size : Nat) : ∀ (vs : List Value) (i : Nat) (cells : Array Value) (done : List Value), (∀ v ∈ vs, v.cells.size = size) → done.length = i * size → cells.toList.take (i * size) = done → cells.size = (i + vs.length) * size →
    Instr.fill (fun i => some (i * size, size)) cells (numbered i vs) = some (done ++ (vs.map (·.cells.toList)).flatten).toArray
  | [], i, cells, done, _, hd, ht, hs => by
    simp only [numbered, Instr.fill]
    simp at hs
    have : cells.toList = done := by rw [← ht, List.take_of_length_le (by simp; omega)]
    simp [← this]
  | v :: vs, i, cells, done, hv, hd, ht, hs => by
    have hv0 := hv v (by simp)
    have hs' : cells.size = i * size + size + vs.length * size := by rw [hs]; simp only [List.length_cons]; rw [Nat.add_mul, Nat.add_mul]; omega
    simp only [numbered, Instr.fill, hv0]
    rw [if_neg (by simp; omega)]
    have hf := fold_set v.cells.toList (i * size) 0 cells (by simp; omega)
    have hconv : Array.foldl (fun cs x => match x with | (c, j) => cs.setIfInBounds (i * size + j) c) cells v.cells.zipIdx = (v.cells.toList.zipIdx 0).foldl (fun (cs : Array Value) (p : Value × Nat) => cs.setIfInBounds (i * size + p.2) p.1) cells := by
      rw [← Array.foldl_toList]
      simp
    rw [hconv]
    generalize ((v.cells.toList.zipIdx 0).foldl (fun (cs : Array Value) (p : Value × Nat) => cs.setIfInBounds (i * size + p.2) p.1) cells) = C at hf ⊢
    have hCs : C.size = cells.size := by
      have := congrArg List.length hf
      simp at this
      omega
    have ih := fill_full size vs (i + 1) C (done ++ v.cells.toList) (fun u hu => hv u (by simp [hu])) (by simp [hd, hv0, Nat.succ_mul]) ?_ (by rw [hCs, hs]; simp only [List.length_cons]; congr 1; omega)
    · rw [ih]; simp
    · simp only [Nat.add_zero] at hf
      rw [hf, ht]
      rw [List.take_append_of_le_length (by simp [hd, hv0, Nat.succ_mul])]
      rw [List.take_of_length_le (by simp [hd, hv0, Nat.succ_mul])]
/-- '[]T{v0, v1, ..}', every element told -/
theorem s_bs {e : TypeId} {len : Nat} {parts : List (Nat × Operand)} {vs : List Value} {zv : Value} {size bytes : Nat} (ht : P.underlying t = some (.slice e)) (hI : TI P e zv size bytes) (hO : Own w L) (hp : parts.map (fun p => (p.1, ev n f p.2)) = numbered 0 vs)
    (hl : vs.length = len) (hv : ∀ v ∈ vs, v.cells.size = size) (hlim : len * size ≤ 16777216)
    (k : ∀ b w', w.heap.size = b → b < w'.heap.size → Own w' ((b, .cells ((vs.map (·.cells.toList)).flatten).toArray e (0, 0)) :: L) → Ext w L w' ((b, .cells ((vs.map (·.cells.toList)).flatten).toArray e (0, 0)) :: L) →
      wpList P ops Q rest (act n (upd f d (.slice (some ⟨b, 0, none⟩) len len))) w') :
    wpList P ops Q (⟨some d, .buildSlice t len parts.toArray, ty, pos, af, none⟩ :: rest) (act n f) w := by
  have hz : ((Array.range (len * size)).map (zv.cells[· % zv.cells.size]!)).size = len * size := by simp
  have hf := fill_full size vs 0 ((Array.range (len * size)).map (zv.cells[· % zv.cells.size]!)) [] hv (by simp) (by simp) (by rw [hz, hl]; simp)
  rw [← hp] at hf
  have hr := run_buildSlice' (P := P) (t := t) (w := w) (parts := parts.toArray.map (fun p => (p.1, ev n f p.2))) (len := len) ht hI hlim (by simpa using hf)
  refine s_val (v := .slice (some ⟨w.heap.size, 0, none⟩) len len) (w' := w.alloc (.cells ((vs.map (·.cells.toList)).flatten).toArray e)) rfl ?_ (k _ _ rfl (by simp) (own_new hO _) (ext_new w L _))
  simp only [execOp, Sem.run_bind]
  have hcl : (parts.toArray.map fun (i, x) => (i, ev n f x)) = parts.toArray.map (fun p => (p.1, ev n f p.2)) := rfl
  rw [hcl, hr]
  rfl
/-- make([]T, n), n known to be small enough -/
theorem s_make {kd kd' : IntKind} {m : Nat} {e : TypeId} {zv : Value} {bytes : Nat} (ht : P.underlying t = some (.slice e)) (hI : TI P e zv 1 bytes) (hz : zv.cells = #[zv]) (hO : Own w L) (hx : ev n f x = .int kd (m : Int)) (hy : ev n f y = .int kd' (m : Int)) (hm : m * bytes ≤ 281474976710656) (hb : 0 < bytes)
    (k : ∀ b w', w.heap.size = b → b < w'.heap.size → Own w' ((b, .cells (List.replicate m zv).toArray e (0, 0)) :: L) → Ext w L w' ((b, .cells (List.replicate m zv).toArray e (0, 0)) :: L) →
      wpList P ops Q rest (act n (upd f d (.slice (some ⟨b, 0, none⟩) m m))) w') :
    wpList P ops Q (⟨some d, .makeSlice t x y, ty, pos, af, none⟩ :: rest) (act n f) w := by
  obtain ⟨i, hi, hzz, hs, hby⟩ := hI.get
  have hmm : m ≤ 281474976710656 := Nat.le_trans (Nat.le_mul_of_pos_right _ hb) hm
  have hr := run_make_row' (P := P) t e zv bytes ht hI hz kd kd' m (by rw [Nat.mul_comm]; exact hm) (by omega) w
  have hl : (madeCells #[zv] m).toList = List.replicate m zv := toList_madeCells_one zv m
  refine s_val (v := .slice (some ⟨w.heap.size, 0, none⟩) m m) (w' := w.alloc (.cells (List.replicate m zv).toArray e)) rfl ?_ (k _ _ rfl (by simp) (own_new hO _) (ext_new w L _))
  have he : madeCells #[zv] m = (List.replicate m zv).toArray := by rw [← hl]
  rw [he] at hr
  simp [execOp, hx, hy, hr]
end
end Go.GV
