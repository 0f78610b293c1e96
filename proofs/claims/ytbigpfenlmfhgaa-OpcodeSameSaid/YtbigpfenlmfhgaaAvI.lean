/- A part of the proof that the row of the law holds of the program as translated: lemmas and contracts of its functions. -/
import Derived.Test.YtbigpfenlmfhgaaAvW
import Derived.Lib.Overlaps
import Derived.Laws.Externs
set_option linter.unusedVariables false
set_option linter.unusedSimpArgs false
namespace Go.AV
open Go.GV Go.RowKit
/-! ### Rows of one's own: more room, views, copies; an append that must grow -/
theorem OwnSl_extend {T : TypeId} {size : Nat} {a : Option Addr} {m m' c : Nat} {cs : List Value} {S : Hp} (h : OwnSl T size a m c cs S) (hm : m ≤ m') (hc : m' ≤ c) : ∃ jk, jk.length = (m' - m) * size ∧ OwnSl T size a m' c (cs ++ jk) S := by
  rcases h with ⟨hl, ⟨rfl, rfl, rfl, rfl⟩ | ⟨g, tl, rfl, rfl, hcl, hmc, hmx⟩⟩
  · obtain rfl : m' = 0 := by omega
    exact ⟨[], by simp, by simpa using hl, .inl ⟨rfl, rfl, rfl, rfl⟩⟩
  · have e1 : m * size + (m' - m) * size = m' * size := by rw [← Nat.add_mul]; congr 1; omega
    have e2 : m' * size ≤ c * size := Nat.mul_le_mul_right _ hc
    rw [List.length_append, hl] at hcl
    refine ⟨tl.take ((m' - m) * size), by rw [List.length_take]; omega, by rw [List.length_append, List.length_take, hl]; omega, .inr ⟨g, tl.drop ((m' - m) * size), rfl, ?_, ?_, hc, hmx⟩⟩
    · rw [List.append_assoc, List.take_append_drop]
    · rw [List.append_assoc, List.take_append_drop, List.length_append, hl]; exact hcl
section
variable {P : Program} {ops : Array Oper} {Q : Exit → Act → World → Prop} {rest : List Oper} {n : Nat} {f : Fr} {w : World} {L : Hp} {d : Tmp} {ty t t' : TypeId} {pos : String} {af : Array Edge} {x y z : Operand}
theorem a_copyV {T : TypeId} {size bytes : Nat} {zv : Value} {a A' A : Option Addr} {m c l k' c' k cc : Nat} {CC news : List Value} {S : Hp} (ht : P.underlying t = some (.slice T)) (hI : TI P T zv size bytes)
    (hx : ev n f x = .slice A' k' c') (hA : A' = (if c = l then a else a.map (·.add (l * size)))) (hk : k' = m - l) (hy : ev n f y = .slice A k cc) (hS : OwnSl T size a m c CC S) (hO : Own w (S ++ L)) (hsrc : Cs w A news) (hn : news.length = (min k k') * size) (hp : 0 < min k k') (h1 : ∀ u ∈ news, u.oneCell' = true)
    (K : ∀ S' w', OwnSl T size a m c (CC.take (l * size) ++ news ++ CC.drop (l * size + news.length)) S' → Own w' (S' ++ L) → Ext w (S ++ L) w' (S' ++ L) → wpList P ops Q rest (act n (upd f d (.int .i64 ((min k k' : Nat) : Int)))) w') :
    wpList P ops Q (⟨some d, .call { callee := .builtin .copy, args := #[x, y], argTypes := #[t, t'] }, ty, pos, af, none⟩ :: rest) (act n f) w := by
  rcases hS with ⟨hl, ⟨rfl, rfl, rfl, rfl⟩ | ⟨g, tl, rfl, rfl, hcl, hmc, hmx⟩⟩
  · omega
  · have hcl' : ¬ c = l := by omega
    rw [if_neg hcl'] at hA
    simp only [Option.map_some, add_row] at hA
    have e1 : l * size + (m - l) * size = m * size := by rw [← Nat.add_mul]; congr 1; omega
    have e2 : (min k k') * size ≤ (m - l) * size := Nat.mul_le_mul_right _ (by omega)
    have hO1 : Own w ((g, .cells (CC ++ tl).toArray T (0, 0)) :: L) := hO
    refine s_copy (i := 0) (b := g) (o := l * size) (news := news) ht hI hx hA hy hO1 rfl (by rw [List.size_toArray, List.length_append, hl]; omega) hsrc hn h1 ?_
    intro w' hO' hE'
    have key : ((CC ++ tl).toArray.toList.take (l * size) ++ news ++ (CC ++ tl).toArray.toList.drop (l * size + news.length)).toArray = ((CC.take (l * size) ++ news ++ CC.drop (l * size + news.length)) ++ tl).toArray := by
      congr 1
      simp only [List.append_assoc]
      rw [List.take_append_of_le_length (by rw [hl]; omega), List.drop_append_of_le_length (by rw [hl, hn]; omega)]
    rw [key] at hO' hE'
    have hl2 : (CC.take (l * size) ++ news ++ CC.drop (l * size + news.length)).length = m * size := by
      simp only [List.length_append, List.length_take, List.length_drop, hl]; omega
    exact K [(g, .cells ((CC.take (l * size) ++ news ++ CC.drop (l * size + news.length)) ++ tl).toArray T (0, 0))] w' ⟨hl2, .inr ⟨g, tl, rfl, rfl, by rw [List.length_append, hl2]; rw [List.length_append, hl] at hcl; exact hcl, hmc, hmx⟩⟩ hO' hE'
end
section
variable {P : Program}
/-- append(v, make([]T, m)...) where there is no room: what v leads to stays. -/
theorem run_append_grow (w : World) (t ti ty e : TypeId) (i : TypeInfo) (z : Value) (size bytes : Nat) (ht : P.underlying t = some (.slice e)) {k : IntKind} (hti : P.underlying ti = some (.int k)) (hi : P.info? e = some i) (hz : i.zero = some z)
    (hsize : i.size = size) (hby : i.bytes = bytes) (hzs : z.cells.size = size) (hsz : 0 < size) (hb0 : 0 < bytes)
    (A : Option Addr) (cap n : Nat) (xs : List Value) (hxl : xs.length = n * size) (hsrc : Cs w A xs) (kx : IntKind) (m : Nat) (hcap : cap < n + m) (hbytes : (n + m) * bytes ≤ 140737488355328) :
    ∃ rc tl, n + m ≤ rc ∧ rc ≤ maxLen ∧ (xs ++ (Builtin.zeroCells z.cells m).toList ++ tl).length = rc * size ∧ (Builtin.append_ #[t, ti] ty #[.slice A n cap, .int kx m]).run P w = .ok (.slice (some ⟨w.heap.size, 0, none⟩) (n + m) rc) (w.drew.alloc (.cells (xs ++ (Builtin.zeroCells z.cells m).toList ++ tl).toArray e)) := by
  subst hsize
  subst hby
  have hle : n + m ≤ 140737488355328 := Nat.le_trans (Nat.le_mul_of_pos_right _ hb0) hbytes
  have h63 : n + m ≤ maxLen := by simp only [maxLen]; omega
  have hw : IntKind.i64.wrap (m : Int) = m := by rw [IntKind.wrap_i64]; omega
  have hw0 : IntKind.i64.wrap 0 = 0 := by rw [IntKind.wrap_i64]; rfl
  have hneg : ¬ ((m : Int) < 0) := by omega
  have hmb : m * i.bytes ≤ 140737488355328 := Nat.le_trans (Nat.mul_le_mul_right _ (Nat.le_add_left m n)) hbytes
  have hbig : ¬ (281474976710656 < (m : Int) * (i.bytes : Int)) := by
    rw [← Int.natCast_mul]
    omega
  have hsn : i.size ≠ 0 := by omega
  obtain ⟨news, hnews⟩ : ∃ news, news = (Builtin.zeroCells z.cells m).toList := ⟨_, rfl⟩
  rw [← hnews]
  have hl : news.length = m * i.size := by rw [hnews, Array.length_toList, size_zeroCells, hzs]
  have hna : Builtin.zeroCells z.cells m = news.toArray := by rw [hnews]
  have hnil : m = 0 → news = [] := fun h => List.eq_nil_of_length_eq_zero (by rw [hl, h, Nat.zero_mul])
  have hge := grownCap_ge w (n + m) cap e
  have hcm : grownCap w (n + m) cap e ≤ maxLen := grownCap_le_maxLen w (n + m) cap e h63
  have hfo : (Builtin.firstCells i.size n (.slice A n cap)).run P w.drew = .ok xs.toArray w.drew := by
    rcases A with _ | ad
    · have hn : xs = [] := by
        rcases hsrc with h | ⟨ad, e, _⟩
        · exact h
        · cases e
      subst hn
      have : n = 0 := by
        rcases Nat.eq_zero_or_pos n with h | h
        · exact h
        · have := Nat.mul_pos h hsz
          simp at hxl; omega
      subst this
      simp [Builtin.firstCells]
    · have hc : ∀ j u, xs[j]? = some u → w.drew.cell? (ad.add j) = some u := by
        intro j u hu
        rcases hsrc with h | ⟨ad', e, h⟩
        · subst h; simp at hu
        · injection e with e; subst e; exact h j u hu
      have h5 := run_loadCells_list (P := P) (w := w.drew) ad xs hc
      rw [hxl] at h5
      simp [Builtin.firstCells, h5]
  have hn : ¬ (n + m ≤ cap) := by omega
  have h63' : ¬ (9223372036854775807 < ((n : Int) + (m : Int))) := by
    simp only [maxLen] at h63; omega
  have hfit := growslice_fits hcap hbytes
  have h48' : ¬ (281474976710656 < Builtin.nextslicecap (n + m) cap * i.bytes) := by omega
  refine ⟨grownCap w (n + m) cap e, (Builtin.zeroCells z.cells (grownCap w (n + m) cap e - (n + m))).toList, hge, hcm, ?_, ?_⟩
  · simp only [List.length_append, hxl, hl, Array.length_toList, size_zeroCells, hzs, ← Nat.add_mul]
    congr 1
    omega
  · have key : (xs ++ news ++ (Builtin.zeroCells z.cells (grownCap w (n + m) cap e - (n + m))).toList).toArray = xs.toArray ++ news.toArray ++ Builtin.zeroCells z.cells (grownCap w (n + m) cap e - (n + m)) := by
      apply Array.ext'; simp
    rw [key]
    by_cases hm : m = 0
    · have hnl := hnil hm
      subst hm
      rw [hnl]
      simp only [Nat.add_zero] at hn h63' h48' ⊢
      have h63'' : ¬ (9223372036854775807 < (n : Int)) := by simp only [maxLen] at h63; omega
      simp [Builtin.append_, run_underlying ht, run_underlying hti, sizeOf, typeInfo, zeroValue, hi, hz, asInt, asIntOf, hw0, hn, h63'', h48', Question.forced, hfo, newRow, grownCap]
    · have hmz : ¬ (m * i.size = 0) := Nat.mul_ne_zero hm hsn
      simp [Builtin.append_, run_underlying ht, run_underlying hti, sizeOf, typeInfo, zeroValue, hi, hz, asInt, asIntOf, hw, hneg, hbig, hn, h63', h48', Question.forced, hfo, newRow, grownCap, hmz, hna]
      congr 2
      apply Array.ext'
      simp [List.append_assoc]
end
section
variable {P : Program} {ops : Array Oper} {Q : Exit → Act → World → Prop} {rest : List Oper} {n : Nat} {f : Fr} {w : World} {L : Hp} {d : Tmp} {ty t t' : TypeId} {pos : String} {af : Array Edge} {x y z : Operand}
theorem a_grow {T ti : TypeId} {ki kx : IntKind} {size bytes : Nat} {zv : Value} {A : Option Addr} {m cap k : Nat} {xs : List Value} (ht : P.underlying t = some (.slice T)) (hti : P.underlying ti = some (.int ki)) (hI : TI P T zv size bytes) (hzs : zv.cells.size = size) (hsz : 0 < size) (hby : 0 < bytes)
    (hx : ev n f x = .slice A m cap) (hy : ev n f y = .int kx (k : Int)) (hO : Own w L) (hsrc : Cs w A xs) (hxl : xs.length = m * size) (hcap : cap < m + k) (hb : (m + k) * bytes ≤ 140737488355328)
    (K : ∀ a' c' zs S' w', zs.length = k * size → OwnSl T size a' (m + k) c' (xs ++ zs) S' → Own w' (S' ++ L) → Ext w L w' (S' ++ L) → wpList P ops Q rest (act n (upd f d (.slice a' (m + k) c'))) w') :
    wpList P ops Q (⟨some d, .call { callee := .builtin .append, args := #[x, y], argTypes := #[t, ti] }, ty, pos, af, none⟩ :: rest) (act n f) w := by
  obtain ⟨i, hi, hz, hs, hbb⟩ := hI.get
  obtain ⟨rc, tl, h1, h2, h3, h4⟩ := run_append_grow (P := P) w t ti ty T i zv size bytes ht hti hi hz hs hbb hzs hsz hby A cap m xs hxl hsrc kx k hcap hb
  have hzl : (Builtin.zeroCells zv.cells k).toList.length = k * size := by rw [zeroCells_len, hzs]
  have e1 := Nat.add_mul m k size
  have hO1 := own_new (own_drew hO) (.cells (xs ++ (Builtin.zeroCells zv.cells k).toList ++ tl).toArray T)
  have hE1 := (ext_drew w L).trans (ext_new w.drew L (.cells (xs ++ (Builtin.zeroCells zv.cells k).toList ++ tl).toArray T))
  exact s_val rfl (by simp [execOp, resolve, invoke, builtin, hx, hy, h4]) (K (some ⟨w.heap.size, 0, none⟩) rc (Builtin.zeroCells zv.cells k).toList [(w.heap.size, .cells (xs ++ (Builtin.zeroCells zv.cells k).toList ++ tl).toArray T (0, 0))] _ hzl
    ⟨by rw [List.length_append, hxl, hzl, e1], .inr ⟨w.heap.size, tl, rfl, rfl, h3, h1, h2⟩⟩ hO1 hE1)
/-- A call that the model answers itself. -/
theorem s_callX {g : FuncId} {l : List Operand} {vs : List Value} {ats : Array TypeId} {v : Value} (hcf : (callFunc g vs.toArray).run P w = .ok (.value v) w) (ha : l.map (ev n f) = vs) (k : wpList P ops Q rest (act n (upd f d v)) w) :
    wpList P ops Q (⟨some d, .call { callee := .value (.func g), args := l.toArray, argTypes := ats }, ty, pos, af, none⟩ :: rest) (act n f) w := by
  subst ha
  exact s_val rfl (by simp [execOp, resolve, invoke, ev, Deferred.ofValue, hcf]) k
end
theorem own_ne {w : World} {g g' : Nat} {o o' : Obj} {L : Hp} (h : Own w ((g, o) :: (g', o') :: L)) : g ≠ g' := by
  have := h.nodup
  simp only [ks, List.map_cons, List.nodup_cons, List.mem_cons, not_or] at this
  exact this.1.1
theorem ov_false {P : Program} {w : World} {S0 S2 L : Hp} {T tS tR : TypeId} {size bytes : Nat} {zv : Value} {a0 a2 A : Option Addr} {m0 c0 c2 l lb cb : Nat} {CC V : List Value} (ht : P.underlying tS = some (.slice T)) (hI : TI P T zv size bytes) (hsz : 0 < size) (hO : Own w (S0 ++ (S2 ++ L))) (h0 : OwnSl T size a0 m0 c0 CC S0) (h2 : OwnSl T size a2 1 c2 V S2) (hm : 0 < m0)
    (hA : A = (if c0 = l then a0 else a0.map (·.add (l * size)))) :
    (Extern.SlicesOverlaps.overlaps #[tS, tS] #[tR] #[.slice a2 1 c2, .slice A lb cb]).run P w = .ok (.bool false) w := by
  rcases h0 with ⟨hl0, ⟨rfl, rfl, rfl, rfl⟩ | ⟨g0, t0, rfl, rfl, hc0, hm0, _⟩⟩
  · omega
  rcases h2 with ⟨hl2, ⟨_, h, _⟩ | ⟨g2, t2, rfl, rfl, hc2, hm2, _⟩⟩
  · omega
  have hne : g2 ≠ g0 := (own_ne (o := _) (o' := _) hO).symm
  have hb0 : w.heap[g0]? = some (.cells (CC ++ t0).toArray T (0, 0)) := hO.at_ (g0, .cells (CC ++ t0).toArray T (0, 0)) (by simp)
  have hb2 : w.heap[g2]? = some (.cells (V ++ t2).toArray T (0, 0)) := hO.at_ (g2, .cells (V ++ t2).toArray T (0, 0)) (by simp)
  obtain ⟨o, rfl⟩ : ∃ o, A = some ⟨g0, o, none⟩ := by
    subst hA
    split
    · exact ⟨0, rfl⟩
    · exact ⟨l * size, by simp only [Option.map_some, add_row]⟩
  refine Lib.run_overlaps_apart w tS tR T ht size (fun w => hI.sizeOf) ⟨g2, 0, none⟩ ⟨g0, o, none⟩ 1 c2 lb cb hne T T (V ++ t2).length (CC ++ t0).length ?_ ?_ ?_ ?_ ?_
  · simp [World.shape?, hb2]
  · simp [World.shape?, hb0]
  · rw [hc0]
    have : 0 < c0 * size := Nat.mul_pos (by omega) hsz
    omega
  · simp [World.frozen?, hb2]
  · simp [World.frozen?, hb2]
theorem put1 {A V Z : List Value} {p : Nat} (hA : A.length = p) (hV : V.length ≤ Z.length) : (A ++ Z).take p ++ V ++ (A ++ Z).drop (p + V.length) = A ++ V ++ Z.drop V.length := by
  subst hA
  rw [List.take_left, List.drop_append]
  simp
theorem flsplit {α : Type} {e : α → List Value} (xs : List α) (i : Nat) : fl e xs = fl e (xs.take i) ++ fl e (xs.drop i) := by rw [← fl_app, List.take_append_drop]
theorem ins_grow {α : Type} {e : α → List Value} {size : Nat} (he : ∀ x, (e x).length = size) {xs vs : List α} {i : Nat} {zs : List Value} (hi : i ≤ xs.length) (hv : vs.length = 1) (hz : zs.length = (xs.length + 1 - i) * size) :
    let CC := fl e (xs.take i) ++ zs
    let C1 := CC.take (i * size) ++ fl e vs ++ CC.drop (i * size + (fl e vs).length)
    C1.take ((i + 1) * size) ++ fl e (xs.drop i) ++ C1.drop ((i + 1) * size + (fl e (xs.drop i)).length) = fl e (xs.take i ++ vs ++ xs.drop i) := by
  intro CC C1
  have hA : (fl e (xs.take i)).length = i * size := by rw [fl_len he, List.length_take]; congr 1; omega
  have hV : (fl e vs).length = size := by rw [fl_len he, hv, Nat.one_mul]
  have hB : (fl e (xs.drop i)).length = (xs.length - i) * size := by rw [fl_len he, List.length_drop]
  have hz' : zs.length = (xs.length - i) * size + size := by rw [hz, show xs.length + 1 - i = (xs.length - i) + 1 by omega, Nat.succ_mul]
  have e1 : C1 = (fl e (xs.take i) ++ fl e vs) ++ zs.drop (fl e vs).length := put1 hA (by omega)
  have e3 : (zs.drop (fl e vs).length).drop (fl e (xs.drop i)).length = [] := by rw [List.drop_drop]; exact List.drop_eq_nil_of_le (by omega)
  rw [e1, put1 (by rw [List.length_append, hA, hV, Nat.succ_mul]) (by rw [List.length_drop, hB]; omega), e3, List.append_nil, fl_app, fl_app]
theorem ins_room {α : Type} {e : α → List Value} {size : Nat} (he : ∀ x, (e x).length = size) {xs vs : List α} {i : Nat} {jk : List Value} (hi : i ≤ xs.length) (hv : vs.length = 1) (hz : jk.length = size) :
    let CC := fl e xs ++ jk
    let C1 := CC.take ((i + 1) * size) ++ fl e (xs.drop i) ++ CC.drop ((i + 1) * size + (fl e (xs.drop i)).length)
    C1.take (i * size) ++ fl e vs ++ C1.drop (i * size + (fl e vs).length) = fl e (xs.take i ++ vs ++ xs.drop i) := by
  intro CC C1
  have hA : (fl e (xs.take i)).length = i * size := by rw [fl_len he, List.length_take]; congr 1; omega
  have hV : (fl e vs).length = size := by rw [fl_len he, hv, Nat.one_mul]
  have hB : (fl e (xs.drop i)).length = (xs.length - i) * size := by rw [fl_len he, List.length_drop]
  obtain ⟨X, hX⟩ : ∃ X, X = (fl e (xs.drop i) ++ jk).take size := ⟨_, rfl⟩
  have hXl : X.length = size := by rw [hX, List.length_take, List.length_append]; omega
  have eC : CC = (fl e (xs.take i) ++ X) ++ (fl e (xs.drop i) ++ jk).drop size := by
    show fl e xs ++ jk = _
    rw [flsplit xs i, hX, List.append_assoc, List.append_assoc, List.take_append_drop]
  have e1 : C1 = fl e (xs.take i) ++ (X ++ fl e (xs.drop i)) := by
    show CC.take ((i + 1) * size) ++ fl e (xs.drop i) ++ CC.drop ((i + 1) * size + (fl e (xs.drop i)).length) = _
    have e3 : ((fl e (xs.drop i) ++ jk).drop size).drop (fl e (xs.drop i)).length = [] := by rw [List.drop_drop]; exact List.drop_eq_nil_of_le (by rw [List.length_append]; omega)
    rw [eC, put1 (by rw [List.length_append, hA, hXl, Nat.succ_mul]) (by rw [List.length_drop, List.length_append]; omega), e3, List.append_nil, List.append_assoc]
  rw [e1, put1 hA (by rw [List.length_append]; omega), hV, ← hXl, List.drop_left, fl_app, fl_app]
end Go.AV
