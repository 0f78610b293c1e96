/- A part of the proof that the row of the law holds of the program as translated: lemmas and contracts of its functions. -/
import Derived.Test.YtbigpfenlmfhgaaGvV
set_option linter.unusedVariables false
set_option linter.unusedSimpArgs false
namespace Go.GV
/-! ### 21. Results that lie in cells -/
def rvOf (tmps : Array Value) : ResultVar → Sem Value
  | .tmp t => pure (tmps.getD t undef)
  | .cell a t => do loadVar t (← asAddr (tmps.getD a undef))
theorem results_rv (fn : Func) (tmps : Array Value) : results fn tmps = (do
    let vs ← fn.results.mapM (rvOf tmps)
    pure (if h : vs.size = 1 then vs[0] else .tuple vs)) := by
  unfold results
  congr 1
section
variable {P : Program} {n : Nat} {f : Fr} {w : World}
def RV (P : Program) (n : Nat) (f : Fr) (w : World) (r : ResultVar) (v : Value) : Prop := (rvOf (act n f).tmps r).run P w = .ok v w
theorem rv_tmp {t : Tmp} {v : Value} (hv : ev n f (.tmp t) = v) : RV P n f w (.tmp t) v := by
  subst hv
  unfold RV
  simp only [rvOf]
  rw [getD_tmps]
  rfl
theorem rv_agg {t : Tmp} {T : TypeId} {u : TypeDesc} {a : Addr} {b : Nat} {arr : Array Value} {TT : TypeId} {fr : Nat × Nat} {zv : Value} {size bytes : Nat} (ht : P.underlying T = some u) (hu : aggB u = true) (hI : TI P T zv size bytes) (hx : ev n f (.tmp t) = .pointer (some a))
    (hb : w.heap[b]? = some (.cells arr TT fr)) (ha : a = ⟨b, 0, none⟩) (hl : arr.size = size) : RV P n f w (.cell t T) (.agg arr) := by
  have h1 := rl_all (P := P) (w := w) (d := 0) (ty := T) (pos := "") (af := #[]) (gd := none) ht hu hI hx hb ha hl
  simp only [execOp, hx] at h1
  simp only [Instr.loadAt, Instr.sureAddr, Sem.run_bind, Sem.run_pure, Result.andThen_ok, asAddr] at h1
  unfold RV
  simp only [rvOf]
  rw [getD_tmps, hx]
  cases h2 : (loadVar T a).run P w with
  | ok x w' => rw [h2] at h1; simp at h1; obtain ⟨h3, h4⟩ := h1; subst h3; subst h4; simp [asAddr, h2]
  | halt x w' => rw [h2] at h1; simp at h1
theorem rv_one {t : Tmp} {T : TypeId} {u : TypeDesc} {a : Addr} {v : Value} (ht : P.underlying T = some u) (hu : aggB u = false) (hx : ev n f (.tmp t) = .pointer (some a)) (hc : w.cell? a = some v) : RV P n f w (.cell t T) v := by
  unfold RV
  simp only [rvOf]
  rw [getD_tmps, hx]
  simp [asAddr, run_load1 ht hu hc]
theorem e_r1 {fn : Func} {R : Ending → World → Prop} {r1 : ResultVar} {v1 : Value} (hr : fn.results = #[r1]) (h1 : RV P n f w r1 v1) (h : R (.returned v1) w) : bodyPost P fn R .ret (act n f) w :=
  e_cells (v := v1) (by
    unfold RV at h1
    rw [results_rv, hr]
    simp [h1]) h
theorem e_r2 {fn : Func} {R : Ending → World → Prop} {r1 r2 : ResultVar} {v1 v2 : Value} (hr : fn.results = #[r1, r2]) (h1 : RV P n f w r1 v1) (h2 : RV P n f w r2 v2) (h : R (.returned (.tuple #[v1, v2])) w) : bodyPost P fn R .ret (act n f) w :=
  e_cells (v := .tuple #[v1, v2]) (by
    unfold RV at h1 h2
    rw [results_rv, hr]
    simp [h1, h2]) h
theorem e_r3 {fn : Func} {R : Ending → World → Prop} {r1 r2 r3 : ResultVar} {v1 v2 v3 : Value} (hr : fn.results = #[r1, r2, r3]) (h1 : RV P n f w r1 v1) (h2 : RV P n f w r2 v2) (h3 : RV P n f w r3 v3) (h : R (.returned (.tuple #[v1, v2, v3])) w) : bodyPost P fn R .ret (act n f) w :=
  e_cells (v := .tuple #[v1, v2, v3]) (by
    unfold RV at h1 h2 h3
    rw [results_rv, hr]
    simp [h1, h2, h3]) h
end
/-- A loop whose invariant is told of the list of blocks at its head, too. -/
theorem c_loopL {P : Program} {Q : Exit → Act → World → Prop} {n : Nat} {f : Fr} {w : World} {L : Hp} {c : Code} (hO : Own w L) (I : Hp → Fr → Nat → Fr → World → Prop) (m0 : Nat) (h0 : I L f m0 f w)
    (round : ∀ m g w, I L f m g w → c.wp P (Exit.then (fun a' w' => ∃ m' f', m' < m ∧ a' = act n f' ∧ I L f m' f' w') Q) (act n g) w) : (Code.loop c).wp P Q (act n f) w := c_loop0 (I L) m0 h0 round
theorem r_cutN {P : Program} {n : Nat} {f : Fr} {w : World} {d : Tmp} {ty t : TypeId} {pos : String} {af : Array Edge} {x : Operand} {gd : Option (Nat × Bool)} {a a' : Option Addr} {m c : Nat} {e : TypeId} {zv : Value} {size bytes : Nat} {lo hi mx : Option Operand} {l h q : Nat} (ht : P.underlying t = some (.slice e)) (hI : TI P e zv size bytes) (hx : ev n f x = .slice a m c)
    (hb : (Instr.sliceBounds true m c (lo.map (ev n f)) (hi.map (ev n f)) (mx.map (ev n f))).run P w = .ok (l, h, q) w) (ha : a' = (if q = l then a else a.map (·.add (l * size)))) :
    (execOp (ev n f) ⟨some d, .slice t x lo hi mx, ty, pos, af, gd⟩).run P w = .ok (.value (.slice a' (h - l) (q - l))) w := by
  subst ha
  exact r_cut ht hI hx hb
section
variable {P : Program} {ops : Array Oper} {Q : Exit → Act → World → Prop} {n k : Nat} {f : Fr} {w : World} {S : World → Prop} {d : Tmp} {ty t t' : TypeId} {pos : String} {af : Array Edge} {x y : Operand}
theorem r_strEqT {s s' : ByteArray} {gd : Option (Nat × Bool)} (hx : ev n f x = .string s) (hy : ev n f y = .string s') (h : s = s') : (execOp (ev n f) ⟨some d, .binOp .eql t x y t', ty, pos, af, gd⟩).run P w = .ok (.value (.bool true)) w := by
  simp [execOp, hx, hy, eqGuard, binOp, Op.stringOp, h]
theorem r_strEqF {s s' : ByteArray} {gd : Option (Nat × Bool)} (hx : ev n f x = .string s) (hy : ev n f y = .string s') (h : s ≠ s') : (execOp (ev n f) ⟨some d, .binOp .eql t x y t', ty, pos, af, gd⟩).run P w = .ok (.value (.bool false)) w := by
  simp [execOp, hx, hy, eqGuard, binOp, Op.stringOp, ByteArray.toList_eq]; exact fun e => h (bytes_ext e)
theorem dt_strEq {l : List Oper} {i fuel : Nat} {listed listed' : Array Bool} {s s' : ByteArray} 
    (hi : l[i]? = some ⟨some d, .binOp .eql t x y t', ty, pos, af, none⟩) (hb : okB l.toArray listed k i = true) (hl : listed.setIfInBounds i true = listed') (hQ : ∀ (v : Value) c (a : Act) w, Q (.panic c) (a.put (some d) v) w → Q (.panic c) a w) (hg : True = True) (hS : S w)
    (hx : ev n f x = .string s) (hy : ev n f y = .string s') (hT : s = s' → WH P l.toArray Q S k n fuel listed' (upd f d (.bool true)) w) (hF : s ≠ s' → WH P l.toArray Q S k n fuel listed' (upd f d (.bool false)) w) : WH P l.toArray Q S k n (fuel + 1) listed f w := by
  rcases Classical.em (s = s') with h | h
  · exact d_take hi hb hl (hQ _) rfl hS (fun _ _ => r_strEqT hx hy h) (hT h)
  · exact d_take hi hb hl (hQ _) rfl hS (fun _ _ => r_strEqF hx hy h) (hF h)
theorem dt_strEqG {l : List Oper} {i fuel : Nat} {listed listed' : Array Bool} {s s' : ByteArray} {j : Nat} {want : Bool} 
    (hi : l[i]? = some ⟨some d, .binOp .eql t x y t', ty, pos, af, some (j, want)⟩) (hb : okB l.toArray listed k i = true) (hl : listed.setIfInBounds i true = listed') (hQ : ∀ (v : Value) c (a : Act) w, Q (.panic c) (a.put (some d) v) w → Q (.panic c) a w) (dj : Tmp) (hj : (l[j]?).bind (·.dst) = some dj) (hv : ev n f (.tmp dj) = .bool want) (hS : S w)
    (hx : ev n f x = .string s) (hy : ev n f y = .string s') (hT : s = s' → WH P l.toArray Q S k n fuel listed' (upd f d (.bool true)) w) (hF : s ≠ s' → WH P l.toArray Q S k n fuel listed' (upd f d (.bool false)) w) : WH P l.toArray Q S k n (fuel + 1) listed f w := by
  rcases Classical.em (s = s') with h | h
  · exact d_takeG dj hi hb hl (hQ _) rfl hj hv hS (fun _ _ => r_strEqT hx hy h) (hT h)
  · exact d_takeG dj hi hb hl (hQ _) rfl hj hv hS (fun _ _ => r_strEqF hx hy h) (hF h)
theorem r_strNeT {s s' : ByteArray} {gd : Option (Nat × Bool)} (hx : ev n f x = .string s) (hy : ev n f y = .string s') (h : s ≠ s') : (execOp (ev n f) ⟨some d, .binOp .neq t x y t', ty, pos, af, gd⟩).run P w = .ok (.value (.bool true)) w := by
  simp [execOp, hx, hy, eqGuard, binOp, Op.stringOp, ByteArray.toList_eq]; exact fun e => h (bytes_ext e)
theorem r_strNeF {s s' : ByteArray} {gd : Option (Nat × Bool)} (hx : ev n f x = .string s) (hy : ev n f y = .string s') (h : s = s') : (execOp (ev n f) ⟨some d, .binOp .neq t x y t', ty, pos, af, gd⟩).run P w = .ok (.value (.bool false)) w := by
  simp [execOp, hx, hy, eqGuard, binOp, Op.stringOp, h]
theorem dt_strNe {l : List Oper} {i fuel : Nat} {listed listed' : Array Bool} {s s' : ByteArray} 
    (hi : l[i]? = some ⟨some d, .binOp .neq t x y t', ty, pos, af, none⟩) (hb : okB l.toArray listed k i = true) (hl : listed.setIfInBounds i true = listed') (hQ : ∀ (v : Value) c (a : Act) w, Q (.panic c) (a.put (some d) v) w → Q (.panic c) a w) (hg : True = True) (hS : S w)
    (hx : ev n f x = .string s) (hy : ev n f y = .string s') (hT : s ≠ s' → WH P l.toArray Q S k n fuel listed' (upd f d (.bool true)) w) (hF : s = s' → WH P l.toArray Q S k n fuel listed' (upd f d (.bool false)) w) : WH P l.toArray Q S k n (fuel + 1) listed f w := by
  rcases Classical.em (s = s') with h | h
  · exact d_take hi hb hl (hQ _) rfl hS (fun _ _ => r_strNeF hx hy h) (hF h)
  · exact d_take hi hb hl (hQ _) rfl hS (fun _ _ => r_strNeT hx hy h) (hT h)
theorem dt_strNeG {l : List Oper} {i fuel : Nat} {listed listed' : Array Bool} {s s' : ByteArray} {j : Nat} {want : Bool} 
    (hi : l[i]? = some ⟨some d, .binOp .neq t x y t', ty, pos, af, some (j, want)⟩) (hb : okB l.toArray listed k i = true) (hl : listed.setIfInBounds i true = listed') (hQ : ∀ (v : Value) c (a : Act) w, Q (.panic c) (a.put (some d) v) w → Q (.panic c) a w) (dj : Tmp) (hj : (l[j]?).bind (·.dst) = some dj) (hv : ev n f (.tmp dj) = .bool want) (hS : S w)
    (hx : ev n f x = .string s) (hy : ev n f y = .string s') (hT : s ≠ s' → WH P l.toArray Q S k n fuel listed' (upd f d (.bool true)) w) (hF : s = s' → WH P l.toArray Q S k n fuel listed' (upd f d (.bool false)) w) : WH P l.toArray Q S k n (fuel + 1) listed f w := by
  rcases Classical.em (s = s') with h | h
  · exact d_takeG dj hi hb hl (hQ _) rfl hj hv hS (fun _ _ => r_strNeF hx hy h) (hF h)
  · exact d_takeG dj hi hb hl (hQ _) rfl hj hv hS (fun _ _ => r_strNeT hx hy h) (hT h)
end
theorem g_skipU {P : Program} {Q : Exit → Act → World → Prop} {rest : List Oper} {n : Nat} {f : Fr} {w : World} {ty : TypeId} {pos : String} {af : Array Edge} {l : List Oper} {dst : Option Tmp} {op : Op} {j : Nat} (dj : Tmp) {want : Bool} (hj : (l[j]?).bind (·.dst) = some dj) (hv : ev n f (.tmp dj) = undef)
    (k : wpList P l.toArray Q rest (act n (pt f dst undef)) w) : wpList P l.toArray Q (⟨dst, op, ty, pos, af, some (j, want)⟩ :: rest) (act n f) w := by
  have hy : yielded l.toArray (act n f).tmps j ≠ some want := by
    unfold yielded
    have hj' : (l.toArray[j]?).bind (·.dst) = some dj := by simpa using hj
    rw [hj']
    simp only [Option.bind_some]
    have h := getD_tmps' n f dj
    rw [hv] at h
    cases hh : (act n f).tmps[dj]? with
    | none => simp
    | some v => rw [hh] at h; simp only [Option.getD_some] at h; subst h; simp [undef]
  unfold wpList
  rw [if_neg]
  · rw [act_put]; exact k
  · simp only [Region.wanted]
    simpa using hy
/-! ### 22. More of slices that are owned -/
theorem OwnSl.shrink {T : TypeId} {size : Nat} {a : Option Addr} {m k c : Nat} {xs ys : List Value} {S : Hp} (h : OwnSl T size a m c (xs ++ ys) S) (hx : xs.length = k * size) (hk : k ≤ m) : OwnSl T size a k c xs S := by
  rcases h with ⟨hl, ⟨rfl, rfl, rfl, rfl⟩ | ⟨g, tail, rfl, rfl, hc, hn, hm⟩⟩
  · have hk0 : k = 0 := by omega
    subst hk0
    exact ⟨hx, .inl ⟨rfl, rfl, rfl, rfl⟩⟩
  · exact ⟨hx, .inr ⟨g, ys ++ tail, rfl, by simp, by simpa using hc, by omega, hm⟩⟩
theorem cut0 {a : Option Addr} {q size : Nat} : (if q = 0 then a else a.map (·.add (0 * size))) = a := by
  split
  · rfl
  · cases a <;> simp [Addr.add]
theorem OwnSl.setE {α : Type} {e : α → List Value} {T : TypeId} {g m c o : Nat} {xs : List α} {tail : List Value} {v : Value} {x : α} {w : World} {M : Hp} {i : Nat} (hO : Own w M) (hM : M[i]? = some (g, .cells ((fl e xs ++ tail).toArray.setIfInBounds o v) T (0, 0))) (hx : e x = [v]) (he : ∀ x, (e x).length = 1) (hl : (fl e xs).length = m * 1) (hc : (fl e xs ++ tail).length = c * 1) (hmc : m ≤ c) (hmx : c ≤ maxLen) {o' : Nat} (ho' : o = o') (ho : o' < m) :
    OwnSl T 1 (some ⟨g, 0, none⟩) m c (fl e (xs.set o' x)) [(g, .cells ((fl e xs ++ tail).toArray.setIfInBounds o v) T (0, 0))] := by
  subst ho'
  rw [← fl_set1 hx he]
  exact OwnSl.set1 hl hc hmc hmx ho
theorem room_app {xs tl : List Value} {m o : Nat} (hl : xs.length = m) (h : o < m) : ((xs ++ tl).toArray[o]?).isSome = true := by
  have : o < (xs ++ tl).length := by rw [List.length_append]; omega
  simp only [List.getElem?_toArray, List.getElem?_eq_getElem this]
  rfl
theorem RdB.rd {w : World} {L : Hp} {v : Value} {bs : List UInt8} {a : Option Addr} {m c : Nat} (h : RdB w L v bs) (e : v = .slice a m c) : m = bs.length ∧ Rd w L a (fl eB bs) := by
  obtain ⟨a', c', h1, h2, _⟩ := h
  rw [e] at h1
  injection h1 with h1 h3 h4
  subst h1
  exact ⟨h3, h2⟩
theorem fl_rep0 (m : Nat) : List.replicate m (Value.int .u8 0) = fl eB (List.replicate m 0) := by
  rw [fl_eB, List.map_replicate]
  rfl
section
variable {P : Program} {ops : Array Oper} {Q : Exit → Act → World → Prop} {rest : List Oper} {n : Nat} {f : Fr} {w : World} {L : Hp}
variable {ty t t' : TypeId} {pos : String} {af : Array Edge} {x y z : Operand}
theorem s_bsE {α : Type} {d : Tmp} {en : α → List Value} {xs : List α} {e : TypeId} {len : Nat} {parts : List (Nat × Operand)} {vs : List Value} {zv : Value} {size bytes : Nat} (ht : P.underlying t = some (.slice e)) (hI : TI P e zv size bytes) (hO : Own w L) (hp : parts.map (fun p => (p.1, ev n f p.2)) = numbered 0 vs)
    (hl : vs.length = len) (hv : ∀ v ∈ vs, v.cells.size = size) (hlim : len * size ≤ 16777216) (hE : (vs.map (·.cells.toList)).flatten = fl en xs)
    (k : ∀ b w', w.heap.size = b → b < w'.heap.size → Own w' ((b, .cells (fl en xs).toArray e (0, 0)) :: L) → Ext w L w' ((b, .cells (fl en xs).toArray e (0, 0)) :: L) →
      wpList P ops Q rest (act n (upd f d (.slice (some ⟨b, 0, none⟩) len len))) w') :
    wpList P ops Q (⟨some d, .buildSlice t len parts.toArray, ty, pos, af, none⟩ :: rest) (act n f) w :=
  s_bs ht hI hO hp hl hv hlim (by rw [hE]; exact k)
/-- copy(v, s) onto a row of bytes, whole or its first part. -/
theorem s_copyB {d : Tmp} {T : TypeId} {bytes : Nat} {zv : Value} {g : Nat} {A : Option Addr} {m cap k c : Nat} {bs ys : List UInt8} (ht : P.underlying t = some (.slice T)) (hI : TI P T zv 1 bytes)
    (hx : ev n f x = .slice (some ⟨g, 0, none⟩) m cap) (hy : ev n f y = .slice A k c) (hO : Own w ((g, .cells (fl eB bs).toArray T (0, 0)) :: L)) (hb : bs.length = m) (hk : k ≤ m) (hsrc : Cs w A (fl eB ys)) (hyl : ys.length = k)
    (K : ∀ w', Own w' ((g, .cells (fl eB (ys ++ bs.drop k)).toArray T (0, 0)) :: L) → Ext w ((g, .cells (fl eB bs).toArray T (0, 0)) :: L) w' ((g, .cells (fl eB (ys ++ bs.drop k)).toArray T (0, 0)) :: L) → wpList P ops Q rest (act n (upd f d (.int .i64 ((min k m : Nat) : Int)))) w') :
    wpList P ops Q (⟨some d, .call { callee := .builtin .copy, args := #[x, y], argTypes := #[t, t'] }, ty, pos, af, none⟩ :: rest) (act n f) w := by
  have hm : min k m = k := Nat.min_eq_left hk
  refine s_copy (i := 0) (o := 0) (news := fl eB ys) ht hI hx rfl hy hO rfl ?_ hsrc ?_ eB_one ?_
  · simp only [hm, List.size_toArray, flB_len]; omega
  · rw [flB_len, hm, hyl]; omega
  · have h2 : ((fl eB bs).toArray.toList.take 0 ++ fl eB ys ++ (fl eB bs).toArray.toList.drop (0 + (fl eB ys).length)).toArray = (fl eB (ys ++ bs.drop k)).toArray := by
      rw [flB_len, hyl]
      simp only [List.take_zero, List.nil_append, Nat.zero_add]
      rw [fl_app]
      congr 2
      rw [fl_eB, fl_eB, List.map_drop]
    rw [h2]
    exact K
/-- A store into a slice that is owned. -/
theorem s_storeO {α : Type} {e : α → List Value} {T : TypeId} {g m c o o' : Nat} {xs : List α} {tail : List Value} {a : Addr} {A : Option Addr} {v : Value} {u : α} {zv : Value} {bytes : Nat} (hI : TI P t zv 1 bytes) (hx : ev n f x = .pointer (some a)) (hy : ev n f y = v) (ha : a = ⟨g, o, none⟩)
    (hO : Own w ((g, .cells (fl e xs ++ tail).toArray T (0, 0)) :: L)) (hv : v.oneCell' = true) (hu : e u = [v]) (he : ∀ x, (e x).length = 1) (hl : (fl e xs).length = m * 1) (hc : (fl e xs ++ tail).length = c * 1) (hmc : m ≤ c) (hmx : c ≤ maxLen) (hA : A = some ⟨g, 0, none⟩) (ho' : o = o') (ho : o' < m)
    (k : ∀ S' w', OwnSl T 1 A m c (fl e (xs.set o' u)) S' → Own w' (S' ++ L) → Ext w ((g, .cells (fl e xs ++ tail).toArray T (0, 0)) :: L) w' (S' ++ L) → wpList P ops Q rest (act n f) w') :
    wpList P ops Q (⟨none, .store t x y, ty, pos, af, none⟩ :: rest) (act n f) w := by
  subst ho' hA
  refine s_store1 hI hx hy ha hO (i := 0) rfl (room_app hl (by omega)) hv ?_
  intro w' hO' he'
  exact k [(g, .cells ((fl e xs ++ tail).toArray.setIfInBounds o v) T (0, 0))] w' (OwnSl.setE hO' (i := 0) rfl hu he hl hc hmc hmx rfl ho) hO' he'
end
theorem Own.permE {w : World} {L L' : Hp} (h : Own w L) (p : L.Perm L') : Own w L' ∧ Ext w L w L' := ⟨h.perm p, Ext.perm w p⟩
theorem Own.drop1 {w : World} {x : Nat × Obj} {L : Hp} (h : Own w (x :: L)) : Own w L ∧ Ext w (x :: L) w L := ⟨h.t, Ext.drop1 w x L⟩
theorem Own.dropS {w : World} {S L : Hp} (h : Own w (S ++ L)) : Own w L ∧ Ext w (S ++ L) w L := ⟨h.r, Ext.dropL w S L⟩
theorem Rd.at1 {w : World} {L : Hp} {ad : Addr} {cs : List Value} (h : Rd w L (some ad) cs) : ∀ i u, cs[i]? = some u → w.cell? (ad.add i) = some u := by
  rcases h with h | ⟨ad', e, _, h⟩
  · subst h; intro i u hu; simp at hu
  · injection e with e; subst e; exact h
theorem Cs.at1 {w : World} {ad : Addr} {cs : List Value} (h : Cs w (some ad) cs) : ∀ i u, cs[i]? = some u → w.cell? (ad.add i) = some u := by
  rcases h with h | ⟨ad', e, h⟩
  · subst h; intro i u hu; simp at hu
  · injection e with e; subst e; exact h
theorem boxRd {b : Nat} {o : Array Value} {T : TypeId} {fr : Nat × Nat} {w : World} {L : Hp} (hO : Own w ((b, .cells o T fr) :: L)) : Rd w L (some ⟨b, 0, none⟩) o.toList := by
  have h0 := hO.nodup
  simp only [ks, List.map_cons, List.nodup_cons] at h0
  refine .inr ⟨_, rfl, h0.1, fun i u hu => ?_⟩
  rw [add_row, cell_row hO.h]
  simpa using hu
/-- A literal's slice, to be read. -/
theorem litRd {α : Type} {en : α → List Value} {xs : List α} {b m : Nat} {T : TypeId} {w : World} {L : Hp} {size : Nat} (he : ∀ x, (en x).length = size) (hm : xs.length = m) (hmx : m ≤ maxLen) (hO : Own w ((b, .cells (fl en xs).toArray T (0, 0)) :: L)) : Rd w L (some ⟨b, 0, none⟩) (fl en xs) :=
  ((OwnSl.lit (T := T) (size := size) (m := m) (cs := fl en xs) (by rw [fl_len he, hm]) hmx).drop hO).2.2
/-- What was lent to a call comes back. -/
theorem Own.lend {w w' : World} {S L L' : Hp} (h : Own w (S ++ L)) (h' : Own w' L') (e : Ext w L w' L') : Own w' (S ++ L') ∧ Ext w (S ++ L) w' (S ++ L') := by
  have hn := h.nodup
  simp only [ks, List.map_append] at hn
  have hn' := List.nodup_append.1 hn
  refine ⟨⟨?_, ?_⟩, ⟨e.os, e.tape, e.output, e.size, ?_, ?_⟩⟩
  · simp only [ks, List.map_append]
    refine List.nodup_append.2 ⟨hn'.1, h'.nodup, ?_⟩
    intro a ha b hb hab
    subst hab
    rcases e.new a hb with h1 | h1
    · exact hn'.2.2 a ha a h1 rfl
    · have := h.lt (b := a) (by simp only [ks, List.map_append, List.mem_append]; exact .inl ha)
      omega
  · intro p hp
    rcases List.mem_append.1 hp with hp | hp
    · have hk : p.1 ∈ ks S := List.mem_map.2 ⟨p, hp, rfl⟩
      have hlt := h.lt (b := p.1) (by simp only [ks, List.map_append, List.mem_append]; exact .inl hk)
      exact (e.keep p.1 hlt (fun hm => hn'.2.2 p.1 hk p.1 hm rfl)).trans (h.at_ p (by simp [hp]))
    · exact h'.at_ p hp
  · intro b hb hm
    simp only [ks, List.map_append, List.mem_append, not_or] at hm
    exact e.keep b hb hm.2
  · intro b hb
    simp only [ks, List.map_append, List.mem_append] at hb ⊢
    rcases hb with hb | hb
    · exact .inl (.inl hb)
    · rcases e.new b hb with h1 | h1
      · exact .inl (.inr h1)
      · exact .inr h1
theorem Own.lend1 {w w' : World} {x : Nat × Obj} {L L' : Hp} (h : Own w (x :: L)) (h' : Own w' L') (e : Ext w L w' L') : Own w' (x :: L') ∧ Ext w (x :: L) w' (x :: L') := Own.lend (S := [x]) h h' e
end Go.GV
