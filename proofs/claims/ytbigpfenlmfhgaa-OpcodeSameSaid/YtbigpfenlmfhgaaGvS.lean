/- A part of the proof that the row of the law holds of the program as translated: lemmas and contracts of its functions. -/
import Derived.Test.YtbigpfenlmfhgaaGvH
set_option linter.unusedVariables false
set_option linter.unusedSimpArgs false
namespace Go.GV
/-! ### 17. Lists of things, each of so many cells -/
def fl {α : Type} (e : α → List Value) (xs : List α) : List Value := (xs.map e).flatten
section
variable {α : Type} {e : α → List Value} {size : Nat}
theorem fl_nil : fl e [] = [] := rfl
theorem fl_cons (x : α) (xs : List α) : fl e (x :: xs) = e x ++ fl e xs := by simp [fl]
theorem fl_app (xs ys : List α) : fl e (xs ++ ys) = fl e xs ++ fl e ys := by simp [fl]
theorem fl_one (x : α) : fl e [x] = e x := by simp [fl]
theorem fl_len (he : ∀ x, (e x).length = size) : ∀ xs : List α, (fl e xs).length = xs.length * size
  | [] => by simp [fl]
  | x :: xs => by rw [fl_cons, List.length_append, he, fl_len he xs, List.length_cons, Nat.succ_mul]; omega
theorem fl_mem {he : ∀ x, (e x).length = size} {xs : List α} : ∀ c ∈ xs.map e, c.length = size := by
  intro c hc
  obtain ⟨x, _, rfl⟩ := List.mem_map.1 hc
  exact he x
theorem fl_eq_nil (he : ∀ x, (e x).length = size) (hs : 0 < size) {xs : List α} (h : fl e xs = []) : xs = [] := by
  have := fl_len he xs
  rw [h] at this
  rcases xs with _ | ⟨x, xs⟩
  · rfl
  · simp only [List.length_nil, List.length_cons, Nat.succ_mul] at this; omega
theorem fl_split (xs : List α) (l h : Nat) (h1 : l ≤ h) : fl e xs = fl e (xs.take l) ++ fl e ((xs.drop l).take (h - l)) ++ fl e (xs.drop h) := by
  rw [← fl_app, ← fl_app]
  congr 1
  have : xs.drop h = (xs.drop l).drop (h - l) := by rw [List.drop_drop]; congr 1; omega
  rw [this, List.append_assoc, List.take_append_drop, List.take_append_drop]
theorem Rd.cutE {w : World} {L : Hp} {a a' : Option Addr} {xs : List α} {l h q : Nat} (hR : Rd w L a (fl e xs)) (he : ∀ x, (e x).length = size) (h1 : l ≤ h) (h2 : h ≤ xs.length) (hq : q = l → h = l) (ha : a' = (if q = l then a else a.map (·.add (l * size)))) :
    Rd w L a' (fl e ((xs.drop l).take (h - l))) := by
  rw [fl_split xs l h h1] at hR
  refine hR.cutAt (size := size) (l := l) ?_ ?_ ha
  · rw [fl_len he, List.length_take, Nat.min_eq_left (by omega)]
  · intro e'
    have := hq e'
    subst this
    simp [fl]
theorem Rd.nilE {w : World} {L : Hp} {xs : List α} (he : ∀ x, (e x).length = size) (hs : 0 < size) (hR : Rd w L none (fl e xs)) : xs = [] := by
  rcases hR with h | ⟨ad, h, _⟩
  · exact fl_eq_nil he hs h
  · cases h
variable {P : Program} {ops : Array Oper} {Q : Exit → Act → World → Prop} {rest : List Oper} {n : Nat} {f : Fr} {w : World} {L : Hp}
variable {d : Tmp} {ty t t' : TypeId} {pos : String} {af : Array Edge} {x y z : Operand}
theorem s_idxE {a : Option Addr} {m c : Nat} {kd : IntKind} {i : Int} {T : TypeId} {zv : Value} {bytes : Nat} {xs : List α} {v : α}
    (ht : P.underlying t = some (.slice T)) (hI : TI P T zv size bytes) (hx : ev n f x = .slice a m c) (hy : ev n f y = .int kd i) (h0 : 0 ≤ i) (h1 : i < m) (hR : Cs w a (fl e xs)) (he : ∀ x, (e x).length = size) (hs : 0 < size)
    (hi : xs[i.toNat]? = some v)
    (k : ∀ p : Addr, (∀ j u, (e v)[j]? = some u → w.cell? (p.add j) = some u) → wpList P ops Q rest (act n (upd f d (.pointer (some p)))) w) :
    wpList P ops Q (⟨some d, .indexAddr t x y, ty, pos, af, none⟩ :: rest) (act n f) w :=
  s_idx (css := xs.map e) ht hI hx hy h0 h1 hR (fl_mem (he := he)) hs (by simp [hi]) k
theorem idx_getE {w : World} {a : Option Addr} {i : Nat} {xs : List α} {v : α} (hR : Cs w a (fl e xs)) (he : ∀ x, (e x).length = size) (hs : 0 < size) (hi : xs[i]? = some v) :
    ∃ ad, a = some ad ∧ ∀ w', Cs w' a (fl e xs) → ∀ j u, (e v)[j]? = some u → w'.cell? ((ad.add (i * size)).add j) = some u :=
  idx_get (css := xs.map e) hR (fl_mem (he := he)) hs (by simp [hi])
end
/-- bytes, ints -/
def eB (b : UInt8) : List Value := [.int .u8 (b.toNat : Int)]
def eI (n : Int) : List Value := [.int .i64 n]
theorem eB_len (b : UInt8) : (eB b).length = 1 := rfl
theorem eI_len (n : Int) : (eI n).length = 1 := rfl
theorem eB_one {bs : List UInt8} : ∀ u ∈ fl eB bs, u.oneCell' = true := by
  intro u hu
  simp only [fl, List.mem_flatten, List.mem_map] at hu
  obtain ⟨_, ⟨b, _, rfl⟩, hu⟩ := hu
  simp [eB] at hu
  subst hu
  rfl
theorem eI_one {bs : List Int} : ∀ u ∈ fl eI bs, u.oneCell' = true := by
  intro u hu
  simp only [fl, List.mem_flatten, List.mem_map] at hu
  obtain ⟨_, ⟨b, _, rfl⟩, hu⟩ := hu
  simp [eI] at hu
  subst hu
  rfl
theorem fl_eB (bs : List UInt8) : fl eB bs = bs.map fun b => .int .u8 (b.toNat : Int) := by
  induction bs with
  | nil => rfl
  | cons b bs ih => rw [fl_cons, ih]; rfl
theorem fl_eI (bs : List Int) : fl eI bs = bs.map (.int .i64) := by
  induction bs with
  | nil => rfl
  | cons b bs ih => rw [fl_cons, ih]; rfl
theorem flB_len (bs : List UInt8) : (fl eB bs).length = bs.length := by rw [fl_len eB_len]; omega
/-- slices in a slice -/
def eS (v : Value) : List Value := [v]
theorem eS_len (v : Value) : (eS v).length = 1 := rfl
theorem fl_eS (vs : List Value) : fl eS vs = vs := by
  induction vs with
  | nil => rfl
  | cons b bs ih => rw [fl_cons, ih]; rfl
def RdB (w : World) (L : Hp) (v : Value) (bs : List UInt8) : Prop := ∃ a c, v = .slice a bs.length c ∧ Rd w L a (fl eB bs) ∧ bs.length ≤ c
theorem RdB.ext {w w' : World} {L L' : Hp} {v : Value} {bs : List UInt8} (h : RdB w L v bs) (e : Ext w L w' L') : RdB w' L' v bs := by
  obtain ⟨a, c, h1, h2, h3⟩ := h
  exact ⟨a, c, h1, h2.ext e, h3⟩
def RdAll (w : World) (L : Hp) (vs : List Value) (bss : List (List UInt8)) : Prop := vs.length = bss.length ∧ ∀ (i : Nat) v bs, vs[i]? = some v → bss[i]? = some bs → RdB w L v bs
theorem RdAll.ext {w w' : World} {L L' : Hp} {vs : List Value} {bss : List (List UInt8)} (h : RdAll w L vs bss) (e : Ext w L w' L') : RdAll w' L' vs bss := ⟨h.1, fun i v bs h1 h2 => (h.2 i v bs h1 h2).ext e⟩
theorem RdAll.nil (w : World) (L : Hp) : RdAll w L [] [] := ⟨rfl, fun i v bs h => by simp at h⟩
theorem RdAll.cons {w : World} {L : Hp} {v : Value} {vs : List Value} {bs : List UInt8} {bss : List (List UInt8)} (h : RdB w L v bs) (t : RdAll w L vs bss) : RdAll w L (v :: vs) (bs :: bss) :=
  ⟨by simp [t.1], fun i u b h1 h2 => by
    cases i with
    | zero => simp at h1 h2; subst h1; subst h2; exact h
    | succ i => exact t.2 i u b (by simpa using h1) (by simpa using h2)⟩
theorem RdAll.snoc {w : World} {L : Hp} {v : Value} {vs : List Value} {bs : List UInt8} {bss : List (List UInt8)} (t : RdAll w L vs bss) (h : RdB w L v bs) : RdAll w L (vs ++ [v]) (bss ++ [bs]) :=
  ⟨by simp [t.1], fun i u b h1 h2 => by
    rcases Nat.lt_trichotomy i vs.length with hl | hl | hl
    · rw [List.getElem?_append_left hl] at h1
      rw [List.getElem?_append_left (by rw [← t.1]; exact hl)] at h2
      exact t.2 i u b h1 h2
    · subst hl
      rw [List.getElem?_append_right (Nat.le_refl _)] at h1
      rw [t.1, List.getElem?_append_right (Nat.le_refl _)] at h2
      rw [Nat.sub_self] at h1
      rw [Nat.sub_self] at h2
      simp at h1 h2
      subst h1; subst h2; exact h
    · rw [List.getElem?_append_right (by omega)] at h1
      have h3 := (List.getElem?_eq_some_iff.1 h1).1
      simp at h3
      omega⟩
theorem RdAll.get {w : World} {L : Hp} {vs : List Value} {bss : List (List UInt8)} (h : RdAll w L vs bss) {i : Nat} {bs : List UInt8} (hb : bss[i]? = some bs) : ∃ a c, vs[i]? = some (.slice a bs.length c) ∧ Rd w L a (fl eB bs) ∧ bs.length ≤ c := by
  have hl : i < vs.length := by rw [h.1]; exact (List.getElem?_eq_some_iff.1 hb).1
  obtain ⟨a, c, h1, h2, h3⟩ := h.2 i vs[i] bs (by simp) hb
  exact ⟨a, c, by rw [List.getElem?_eq_getElem hl, h1], h2, h3⟩
/-- A slice that is owned is handed on as one that is read. -/
theorem OwnSl.rdB {T : TypeId} {w : World} {a : Option Addr} {c : Nat} {bs : List UInt8} {S L : Hp} (h : OwnSl T 1 a bs.length c (fl eB bs) S) (hO : Own w (S ++ L)) : RdB w L (.slice a bs.length c) bs := ⟨a, c, rfl, (h.drop hO).2.2, h.le.1⟩
section
variable {P : Program} {ops : Array Oper} {Q : Exit → Act → World → Prop} {rest : List Oper} {n : Nat} {f : Fr} {w : World} {L : Hp}
variable {d : Tmp} {ty t t' : TypeId} {pos : String} {af : Array Edge} {x y z : Operand}
/-- An element of a slice that is owned: its address, for a store. -/
theorem s_idxO {a : Option Addr} {m c : Nat} {kd : IntKind} {i : Int} {T : TypeId} {zv : Value} {size bytes : Nat} {cs : List Value} {S : Hp}
    (ht : P.underlying t = some (.slice T)) (hI : TI P T zv size bytes) (hx : ev n f x = .slice a m c) (hy : ev n f y = .int kd i) (h0 : 0 ≤ i) (h1 : i < m) (hS : OwnSl T size a m c cs S)
    (k : ∀ g tail, a = some ⟨g, 0, none⟩ → S = [(g, .cells (cs ++ tail).toArray T (0, 0))] → cs.length = m * size → (cs ++ tail).length = c * size → m ≤ c → c ≤ maxLen → wpList P ops Q rest (act n (upd f d (.pointer (some ⟨g, i.toNat * size, none⟩)))) w) :
    wpList P ops Q (⟨some d, .indexAddr t x y, ty, pos, af, none⟩ :: rest) (act n f) w := by
  obtain ⟨hl, hS⟩ := hS
  rcases hS with ⟨_, hm, _⟩ | ⟨g, tail, rfl, rfl, hc, hmc, hmx⟩
  · subst hm; omega
  · refine s_val (v := .pointer (some ⟨g, i.toNat * size, none⟩)) rfl ?_ (k g tail rfl rfl hl hc hmc hmx)
    have h2 := hI.sizeOf (w := w)
    have h3 : (⟨g, 0, none⟩ : Addr).add (i.toNat * size) = ⟨g, i.toNat * size, none⟩ := add_row g _
    simp [execOp, hx, hy, Instr.indexAt, asIntOf, run_underlying ht, h0, h1, h2, h3]
theorem OwnSl.set1 {T : TypeId} {g m c o : Nat} {cs tail : List Value} {v : Value} (hl : cs.length = m * 1) (hc : (cs ++ tail).length = c * 1) (hmc : m ≤ c) (hmx : c ≤ maxLen) (ho : o < m) :
    OwnSl T 1 (some ⟨g, 0, none⟩) m c (cs.set o v) [(g, .cells ((cs ++ tail).toArray.setIfInBounds o v) T (0, 0))] := by
  refine ⟨by simpa using hl, .inr ⟨g, tail, rfl, ?_, by simpa using hc, hmc, hmx⟩⟩
  have : (cs ++ tail).toArray.setIfInBounds o v = (cs.set o v ++ tail).toArray := by
    apply Array.ext'
    simp
    rw [List.set_append_left _ _ (by omega)]
  rw [this]
theorem fl_set1 {α : Type} {e : α → List Value} {v : Value} {x : α} (hx : e x = [v]) (he : ∀ x, (e x).length = 1) : ∀ (xs : List α) (i : Nat), (fl e xs).set i v = fl e (xs.set i x)
  | [], i => by simp [fl]
  | y :: xs, 0 => by
    rw [List.set_cons_zero, fl_cons, fl_cons, hx]
    have := he y
    match h : e y, this with
    | [u], _ => simp
  | y :: xs, i + 1 => by
    rw [List.set_cons_succ, fl_cons, fl_cons, ← fl_set1 hx he xs i]
    have := he y
    match h : e y, this with
    | [u], _ => simp
end
theorem byte_lt (b : UInt8) : (b.toNat : Int) < 256 := by have := b.toNat_lt; omega
end Go.GV
