/- A part of the proof that the row of the law holds of the program as translated: lemmas and contracts of its functions. -/
import Derived.Test.YtbigpfenlmfhgaaGvE
set_option linter.unusedVariables false
set_option linter.unusedSimpArgs false
namespace Go.GV
section
variable {P : Program} {ops : Array Oper} {Q : Exit → Act → World → Prop} {rest : List Oper} {n : Nat} {f : Fr} {w : World} {L : Hp}
variable {d : Tmp} {ty t t' : TypeId} {pos : String} {af : Array Edge} {x y z : Operand}
theorem OwnSl.ks {T : TypeId} {size : Nat} {a : Option Addr} {m cap : Nat} {cs : List Value} {S : Hp} (h : OwnSl T size a m cap cs S) : GV.ks S = (Value.slice a m cap).ownBlock.toList := by
  rcases h.2 with ⟨rfl, _, _, rfl⟩ | ⟨g, tail, rfl, rfl, _⟩ <;> rfl
theorem run_append_src {T : TypeId} {size bytes : Nat} {zv : Value} {a A : Option Addr} {m cap k c : Nat} {cs news : List Value} {S : Hp} (ht : P.underlying t = some (.slice T)) (hI : TI P T zv size bytes) (hzs : zv.cells.size = size) (hsz : 0 < size) (hby : 0 < bytes)
    (hS : OwnSl T size a m cap cs S) (hO : Own w (S ++ L)) (hsrc : Cs w A news) (hl : news.length = k * size) (h1 : ∀ u ∈ news, u.oneCell' = true) (hb : (m + k) * bytes ≤ 140737488355328) :
    ∃ a' cap' S' w', (Builtin.append_ #[t, t] ty #[.slice a m cap, .slice A k c]).run P w = .ok (.slice a' (m + k) cap') w' ∧ OwnSl T size a' (m + k) cap' (cs ++ news) S' ∧ Own w' (S' ++ L) ∧ Ext w (S ++ L) w' (S' ++ L) := by
  obtain ⟨i, hi, hz, hs, hbb⟩ := hI.get
  have hmk : m + k ≤ 140737488355328 := Nat.le_trans (Nat.le_mul_of_pos_right _ hby) hb
  have hrun : ∃ v' w', (Builtin.append_ #[t, t] ty #[.slice a m cap, .slice A k c]).run P w = .ok v' w' ∧ w'.ownsRow 0 T size v' (m + k) (cs ++ news) ∧ w.grownBy w' (Value.slice a m cap).ownBlock ∧
      (v'.ownBlock = (Value.slice a m cap).ownBlock ∨ v'.ownBlock = some w.heap.size) := by
    rcases A with _ | ad
    · have hn : news = [] := by
        rcases hsrc with h | ⟨ad, e, _⟩
        · exact h
        · cases e
      subst hn
      have hk0 : k = 0 := by
        have h0 : k * size = 0 := by simpa using hl.symm
        rcases Nat.mul_eq_zero.1 h0 with h | h
        · exact h
        · omega
      subst hk0
      refine ⟨.slice a m cap, w, ?_, by simpa using hS.row hO, World.grownBy.refl w _, .inl rfl⟩
      rcases hS.2 with ⟨rfl, rfl, rfl, _⟩ | ⟨g, tail, rfl, _, _, hnc, _⟩
      · simp [Builtin.append_, run_underlying ht, sizeOf, typeInfo, hi, Builtin.lenOf, Builtin.firstCells]
      · simp [Builtin.append_, run_underlying ht, sizeOf, typeInfo, hi, Builtin.lenOf, Builtin.firstCells, hnc, storeCells]
    · have hc : ∀ j u, news[j]? = some u → w.cell? (ad.add j) = some u := by
        intro j u hu
        rcases hsrc with h | ⟨ad', e, h⟩
        · subst h; simp at hu
        · injection e with e; subst e; exact h j u hu
      obtain ⟨v', w', hr, h2, h3, _, h5⟩ := run_append_own_at (P := P) (w := w) 0 t ty T i zv size bytes ht hi hz hs hbb hzs hsz (.slice a m cap) m cs (hS.row hO) ad k c news hl hc h1 (by simp only [maxLen]; omega) hb (Nat.zero_le _)
      exact ⟨v', w', hr, h2, h3, h5⟩
  obtain ⟨v', w', hr, h2, h3, h5⟩ := hrun
  obtain ⟨a', cap', S', rfl, hS', hat, hks⟩ := OwnSl.of_row h2
  have hnd := hO.nodup
  simp only [GV.ks, List.map_append] at hnd
  have hnd' := List.nodup_append.1 hnd
  have hkS : S.map Prod.fst = (Value.slice a m cap).ownBlock.toList := hS.ks
  have hoth : ∀ p, p ∈ L → some p.1 ≠ (Value.slice a m cap).ownBlock := by
    intro p hp e
    refine hnd'.2.2 p.1 ?_ p.1 (List.mem_map.2 ⟨p, hp, rfl⟩) rfl
    rw [hkS, ← e]
    simp
  refine ⟨a', cap', S', w', hr, hS', ⟨?_, ?_⟩, ⟨h3.os, h3.tape, h3.output, h3.size, ?_, ?_⟩⟩
  · simp only [GV.ks, List.map_append]
    refine List.nodup_append.2 ⟨?_, hnd'.2.1, ?_⟩
    · have : S'.map Prod.fst = (Value.slice a' (m + k) cap').ownBlock.toList := hks
      rw [this]
      cases (Value.slice a' (m + k) cap').ownBlock <;> simp
    · intro b hb1 b' hb2 e
      subst e
      have hb1' : b ∈ (Value.slice a' (m + k) cap').ownBlock.toList := by rw [← hks]; exact hb1
      obtain ⟨p, hp, rfl⟩ := List.mem_map.1 hb2
      have hpl := hO.r.lt (b := p.1) (List.mem_map.2 ⟨p, hp, rfl⟩)
      rcases h5 with h5 | h5
      · rw [h5] at hb1'
        have : some p.1 = (Value.slice a m cap).ownBlock := by
          cases hh : (Value.slice a m cap).ownBlock with
          | none => rw [hh] at hb1'; simp at hb1'
          | some q => rw [hh] at hb1'; simp at hb1'; rw [hb1']
        exact hoth p hp this
      · rw [h5] at hb1'
        simp at hb1'
        omega
  · intro p hp
    rcases List.mem_append.1 hp with hp | hp
    · exact hat p hp
    · exact (h3.block p.1 (hO.r.lt (List.mem_map.2 ⟨p, hp, rfl⟩)) (hoth p hp)).trans (hO.at_ p (by simp [hp]))
  · intro b hb1 hb2
    refine h3.block b hb1 ?_
    intro e
    apply hb2
    simp only [GV.ks, List.map_append, List.mem_append]
    left
    rw [hkS, ← e]
    simp
  · intro b hb1
    simp only [GV.ks, List.map_append, List.mem_append] at hb1 ⊢
    rcases hb1 with hb1 | hb1
    · have hb1' : b ∈ (Value.slice a' (m + k) cap').ownBlock.toList := by rw [← hks]; exact hb1
      rcases h5 with h5 | h5
      · left; left
        rw [h5] at hb1'
        rw [hkS]; exact hb1'
      · right
        rw [h5] at hb1'
        simp at hb1'
        omega
    · exact .inl (.inr hb1)
theorem s_append {T : TypeId} {size bytes : Nat} {zv : Value} {a A : Option Addr} {m cap k c : Nat} {cs news : List Value} {S : Hp} (ht : P.underlying t = some (.slice T)) (hI : TI P T zv size bytes) (hzs : zv.cells.size = size) (hsz : 0 < size) (hby : 0 < bytes)
    (hx : ev n f x = .slice a m cap) (hy : ev n f y = .slice A k c)
    (hS : OwnSl T size a m cap cs S) (hO : Own w (S ++ L)) (hsrc : Cs w A news) (hl : news.length = k * size) (h1 : ∀ u ∈ news, u.oneCell' = true) {mk : Nat} (hmk : m + k = mk) (hb : mk * bytes ≤ 140737488355328)
    (K : ∀ a' cap' S' w', OwnSl T size a' mk cap' (cs ++ news) S' → Own w' (S' ++ L) → Ext w (S ++ L) w' (S' ++ L) → wpList P ops Q rest (act n (upd f d (.slice a' mk cap'))) w') :
    wpList P ops Q (⟨some d, .call { callee := .builtin .append, args := #[x, y], argTypes := #[t, t] }, ty, pos, af, none⟩ :: rest) (act n f) w := by
  subst hmk
  obtain ⟨a', cap', S', w', hr, h2, h3, h4⟩ := run_append_src (P := P) (ty := ty) (c := c) ht hI hzs hsz hby hS hO hsrc hl h1 hb
  exact s_val rfl (by simp [execOp, resolve, invoke, builtin, hx, hy, hr]) (K a' cap' S' w' h2 h3 h4)
/-- What a literal has laid is a slice that is owned. -/
theorem OwnSl.lit {T : TypeId} {size b m : Nat} {cs : List Value} (hl : cs.length = m * size) (hm : m ≤ maxLen) : OwnSl T size (some ⟨b, 0, none⟩) m m cs [(b, .cells cs.toArray T (0, 0))] :=
  ⟨hl, .inr ⟨b, [], rfl, by simp, by simpa using hl, Nat.le_refl _, hm⟩⟩
/-- One element written: v[i] = x (one cell) -/
theorem run_copy_own {T : TypeId} {size bytes : Nat} {zv : Value} {b o : Nat} {arr : Array Value} {A : Option Addr} {m cap k c : Nat} {news : List Value} {i : Nat} (ht : P.underlying t = some (.slice T)) (hI : TI P T zv size bytes)
    (hO : Own w L) (hi : L[i]? = some (b, .cells arr T (0, 0))) (hroom : o + (min k m) * size ≤ arr.size) (hsrc : Cs w A news) (hl : news.length = (min k m) * size) (h1 : ∀ u ∈ news, u.oneCell' = true) :
    ∃ w', (Builtin.copy_ #[t, t'] ty #[.slice (some ⟨b, o, none⟩) m cap, .slice A k c]).run P w = .ok (.int .i64 ((min k m : Nat) : Int)) w' ∧
      Own w' (L.set i (b, .cells (arr.toList.take o ++ news ++ arr.toList.drop (o + news.length)).toArray T (0, 0))) ∧ Ext w L w' (L.set i (b, .cells (arr.toList.take o ++ news ++ arr.toList.drop (o + news.length)).toArray T (0, 0))) := by
  have hb := hO.get hi
  have h2 := run_storeCells_at (P := P) b o T news 0 arr w hb (by omega) h1
  simp only [Nat.add_zero] at h2
  have h3 := hI.sizeOf (w := w)
  have h4 : (Builtin.firstCells size (min k m) (.slice A k c)).run P w = .ok news.toArray w := by
    rcases A with _ | ad
    · have hn : news = [] := by
        rcases hsrc with h | ⟨ad, e, _⟩
        · exact h
        · cases e
      subst hn
      simp [Builtin.firstCells]
    · have hc : ∀ j u, news[j]? = some u → w.cell? (ad.add j) = some u := by
        intro j u hu
        rcases hsrc with h | ⟨ad', e, h⟩
        · subst h; simp at hu
        · injection e with e; subst e; exact h j u hu
      have h5 := run_loadCells_list (P := P) (w := w) ad news hc
      rw [hl] at h5
      simp [Builtin.firstCells, h5]
  refine ⟨_, ?_, own_setAt hO hi (setRow_at hb) (fun j hj => setRow_other w b j _ hj), ext_setAt hi rfl rfl rfl (by simp [World.setRow]) (fun j hj => setRow_other w b j _ hj)⟩
  have hmin : Nat.min k m = min k m := rfl
  simp [Builtin.copy_, run_underlying ht, Builtin.lenOf, h3, hmin, h4, h2, goInt]
theorem s_copy {T : TypeId} {size bytes : Nat} {zv : Value} {b o : Nat} {a : Option Addr} {arr : Array Value} {A : Option Addr} {m cap k c : Nat} {news : List Value} {i : Nat} (ht : P.underlying t = some (.slice T)) (hI : TI P T zv size bytes)
    (hx : ev n f x = .slice a m cap) (ha : a = some ⟨b, o, none⟩) (hy : ev n f y = .slice A k c)
    (hO : Own w L) (hi : L[i]? = some (b, .cells arr T (0, 0))) (hroom : o + (min k m) * size ≤ arr.size) (hsrc : Cs w A news) (hl : news.length = (min k m) * size) (h1 : ∀ u ∈ news, u.oneCell' = true)
    (K : ∀ w', Own w' (L.set i (b, .cells (arr.toList.take o ++ news ++ arr.toList.drop (o + news.length)).toArray T (0, 0))) → Ext w L w' (L.set i (b, .cells (arr.toList.take o ++ news ++ arr.toList.drop (o + news.length)).toArray T (0, 0))) → wpList P ops Q rest (act n (upd f d (.int .i64 ((min k m : Nat) : Int)))) w') :
    wpList P ops Q (⟨some d, .call { callee := .builtin .copy, args := #[x, y], argTypes := #[t, t'] }, ty, pos, af, none⟩ :: rest) (act n f) w := by
  subst ha
  obtain ⟨w', hr, h2, h3⟩ := run_copy_own (P := P) (ty := ty) (t' := t') (m := m) (cap := cap) (k := k) (c := c) (o := o) ht hI hO hi hroom hsrc hl h1
  exact s_val rfl (by simp [execOp, resolve, invoke, builtin, hx, hy, hr]) (K w' h2 h3)

/-! ### 13. A struct's value -/
theorem run_build' {w : World} {fs : Array Field} {parts : Array (Nat × Value)} {places : Array (Nat × Nat)} {cells : Array Value} {zv : Value} {size bytes : Nat} (ht : P.underlying t = some (.struct fs)) (hI : TI P t zv size bytes)
    (hp : (fs.mapM (fun f => do pure (f.offset, ← sizeOf f.type)) : Sem (Array (Nat × Nat))).run P w = .ok places w) (hf : Instr.fill (places[·]?) zv.cells parts.toList = some cells) : (Instr.build t parts).run P w = .ok (.agg cells) w := by
  have h2 := hI.zeroOf (w := w)
  simp [Instr.build, h2, run_underlying ht]
  rw [show (fun f : Field => (do pure (f.offset, ← sizeOf f.type) : Sem (Nat × Nat))) = _ from rfl] at hp
  simp at hp
  simp [hp, hf]
end
end Go.GV
