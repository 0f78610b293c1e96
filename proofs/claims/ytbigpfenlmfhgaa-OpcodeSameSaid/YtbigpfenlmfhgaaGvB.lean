/- A part of the proof that the row of the law holds of the program as translated: lemmas and contracts of its functions. -/
import Derived.Test.YtbigpfenlmfhgaaGvA
import Derived.Below
import Derived.Laws.AppendOwn
import Derived.Maps.AppendAt
import Derived.Laws.OwnMore
import Derived.RowKit
set_option linter.unusedVariables false
set_option linter.unusedSimpArgs false
namespace Go.GV

/-! ### 4. What a call owns: blocks, each with what it holds -/
abbrev Hp := List (Nat × Obj)
def ks (L : Hp) : List Nat := L.map Prod.fst
structure Own (w : World) (L : Hp) : Prop where
  nodup : (ks L).Nodup
  at_ : ∀ p, p ∈ L → w.heap[p.1]? = some p.2
/-- From w, L to w', L': what was there and isn't of L is as it was. -/
structure Ext (w : World) (L : Hp) (w' : World) (L' : Hp) : Prop where
  os : w'.os = w.os
  tape : w'.tape = w.tape
  output : w'.output = w.output
  size : w.heap.size ≤ w'.heap.size
  keep : ∀ b, b < w.heap.size → b ∉ ks L → w'.heap[b]? = w.heap[b]?
  new : ∀ b, b ∈ ks L' → b ∈ ks L ∨ w.heap.size ≤ b

theorem Ext.refl (w : World) (L : Hp) : Ext w L w L := ⟨rfl, rfl, rfl, Nat.le_refl _, fun _ _ _ => rfl, fun _ h => .inl h⟩
theorem Ext.trans {w w1 w2 : World} {L L1 L2 : Hp} (h : Ext w L w1 L1) (k : Ext w1 L1 w2 L2) : Ext w L w2 L2 where
  os := k.os.trans h.os
  tape := k.tape.trans h.tape
  output := k.output.trans h.output
  size := Nat.le_trans h.size k.size
  keep := fun b hb hn => by
    have hn1 : b ∉ ks L1 := fun hm => by
      rcases h.new b hm with h1 | h1
      · exact hn h1
      · omega
    exact (k.keep b (Nat.lt_of_lt_of_le hb h.size) hn1).trans (h.keep b hb hn)
  new := fun b hb => by
    rcases k.new b hb with h1 | h1
    · exact h.new b h1
    · exact .inr (Nat.le_trans h.size h1)
theorem Own.lt {w : World} {L : Hp} (h : Own w L) {b : Nat} (hb : b ∈ ks L) : b < w.heap.size := by
  obtain ⟨p, hp, rfl⟩ := List.mem_map.1 hb
  exact (Array.getElem?_eq_some_iff.1 (h.at_ p hp)).1
theorem Own.nil (w : World) : Own w [] := ⟨by simp [ks], fun p h => by cases h⟩
theorem Own.h {w : World} {b : Nat} {o : Obj} {L : Hp} (h : Own w ((b, o) :: L)) : w.heap[b]? = some o := h.at_ (b, o) (by simp)
theorem Own.t {w : World} {x : Nat × Obj} {L : Hp} (h : Own w (x :: L)) : Own w L :=
  ⟨by have := h.nodup; simp [ks] at this ⊢; exact this.2, fun p hp => h.at_ p (by simp [hp])⟩
theorem Own.r {w : World} {A L : Hp} (h : Own w (A ++ L)) : Own w L :=
  ⟨by have := h.nodup; simp only [ks, List.map_append] at this ⊢; exact (List.nodup_append.1 this).2.1, fun p hp => h.at_ p (by simp [hp])⟩
theorem Own.l {w : World} {A L : Hp} (h : Own w (A ++ L)) : Own w A :=
  ⟨by have := h.nodup; simp only [ks, List.map_append] at this ⊢; exact (List.nodup_append.1 this).1, fun p hp => h.at_ p (by simp [hp])⟩
theorem Own.perm {w : World} {L L' : Hp} (h : Own w L) (hp : L.Perm L') : Own w L' :=
  ⟨(List.Perm.map Prod.fst hp).nodup_iff.1 h.nodup, fun p hm => h.at_ p (hp.mem_iff.2 hm)⟩
theorem Ext.perm (w : World) {L L' : Hp} (hp : L.Perm L') : Ext w L w L' :=
  ⟨rfl, rfl, rfl, Nat.le_refl _, fun _ _ _ => rfl, fun b hb => .inl ((List.Perm.map Prod.fst hp).mem_iff.2 hb)⟩
theorem Ext.sub (w : World) {L L' : Hp} (hs : ∀ b, b ∈ ks L' → b ∈ ks L) : Ext w L w L' :=
  ⟨rfl, rfl, rfl, Nat.le_refl _, fun _ _ _ => rfl, fun b hb => .inl (hs b hb)⟩
theorem Ext.dropL (w : World) (A L : Hp) : Ext w (A ++ L) w L := Ext.sub w fun b hb => by
  simp only [ks, List.map_append, List.mem_append] at hb ⊢; exact .inr hb
theorem Ext.drop1 (w : World) (x : Nat × Obj) (L : Hp) : Ext w (x :: L) w L := Ext.dropL w [x] L
theorem World.old_alloc (w : World) (o : Obj) (i : Nat) (h : i < w.heap.size) : (w.alloc o).heap[i]? = w.heap[i]? := by
  show (w.heap.push o)[i]? = _
  rw [Array.getElem?_push]
  rw [if_neg (by omega)]
/-- A block is laid. -/
theorem own_new {w : World} {L : Hp} (h : Own w L) (o : Obj) : Own (w.alloc o) ((w.heap.size, o) :: L) := by
  refine ⟨?_, fun p hp => ?_⟩
  · simp only [ks, List.map_cons, List.nodup_cons]
    exact ⟨fun hm => Nat.lt_irrefl _ (h.lt hm), h.nodup⟩
  · rcases List.mem_cons.1 hp with rfl | hp
    · exact heap_alloc_new w o
    · have hlt := h.lt (b := p.1) (List.mem_map.2 ⟨p, hp, rfl⟩)
      exact (World.old_alloc w o p.1 hlt).trans (h.at_ p hp)
theorem ext_new (w : World) (L : Hp) (o : Obj) : Ext w L (w.alloc o) ((w.heap.size, o) :: L) :=
  ⟨rfl, rfl, rfl, by simp, fun b hb _ => World.old_alloc w o b hb, fun b hb => by
    simp only [ks, List.map_cons, List.mem_cons] at hb
    rcases hb with rfl | hb
    · exact .inr (Nat.le_refl _)
    · exact .inl hb⟩
theorem ext_new' (w : World) (L : Hp) (o : Obj) : Ext w L (w.alloc o) L :=
  ⟨rfl, rfl, rfl, by simp, fun b hb _ => World.old_alloc w o b hb, fun b hb => .inl hb⟩
theorem own_new' {w : World} {L : Hp} (h : Own w L) (o : Obj) : Own (w.alloc o) L := (own_new h o).t
theorem own_drew {w : World} {L : Hp} (h : Own w L) : Own w.drew L := ⟨h.nodup, h.at_⟩
theorem ext_drew (w : World) (L : Hp) : Ext w L w.drew L := ⟨rfl, rfl, rfl, Nat.le_refl _, fun _ _ _ => rfl, fun _ h => .inl h⟩
/-- The first block's content turns. -/
theorem own_put {w w' : World} {b : Nat} {o o' : Obj} {L : Hp} (h : Own w ((b, o) :: L)) (hb : w'.heap[b]? = some o') (hk : ∀ i, i ≠ b → w'.heap[i]? = w.heap[i]?) : Own w' ((b, o') :: L) := by
  have hn := h.nodup
  simp only [ks, List.map_cons, List.nodup_cons] at hn
  refine ⟨by simp only [ks, List.map_cons, List.nodup_cons]; exact hn, fun p hp => ?_⟩
  rcases List.mem_cons.1 hp with rfl | hp
  · exact hb
  · have hne : p.1 ≠ b := fun e => hn.1 (e ▸ List.mem_map.2 ⟨p, hp, rfl⟩)
    exact (hk p.1 hne).trans (h.at_ p (by simp [hp]))
theorem ext_put {w w' : World} {b : Nat} {o o' : Obj} {L : Hp} (h1 : w'.os = w.os) (h2 : w'.tape = w.tape) (h3 : w'.output = w.output) (hs : w'.heap.size = w.heap.size) (hk : ∀ i, i ≠ b → w'.heap[i]? = w.heap[i]?) : Ext w ((b, o) :: L) w' ((b, o') :: L) :=
  ⟨h1, h2, h3, by omega, fun i _ hn => hk i (fun e => hn (by simp [ks, e])), fun i hi => .inl (by simpa [ks] using hi)⟩
theorem own_setCell {w : World} {b i : Nat} {cs : Array Value} {t : TypeId} {fr : Nat × Nat} {L : Hp} (v : Value) (h : Own w ((b, .cells cs t fr) :: L)) : Own (w.setCell ⟨b, i, none⟩ v) ((b, .cells (cs.setIfInBounds i v) t fr) :: L) :=
  own_put h (by simp [World.setCell, Array.getElem?_modify, h.h]) (fun j hj => heap_setCell_other w ⟨b, i, none⟩ j v hj)
theorem ext_setCell (w : World) {b i : Nat} {o o' : Obj} {L : Hp} (v : Value) : Ext w ((b, o) :: L) (w.setCell ⟨b, i, none⟩ v) ((b, o') :: L) :=
  ext_put rfl rfl rfl (by simp) (fun j hj => heap_setCell_other w ⟨b, i, none⟩ j v hj)
theorem swapA {A B C : Hp} : (A ++ (B ++ C)).Perm (B ++ (A ++ C)) := by
  rw [← List.append_assoc, ← List.append_assoc]; exact List.Perm.append_right C List.perm_append_comm
theorem move1 {x : Nat × Obj} {B C : Hp} : (x :: (B ++ C)).Perm (B ++ (x :: C)) := swapA (A := [x])
theorem move1' {x : Nat × Obj} {B C : Hp} : (B ++ (x :: C)).Perm (x :: (B ++ C)) := move1.symm
theorem move2 {x y : Nat × Obj} {B C : Hp} : (x :: y :: (B ++ C)).Perm (B ++ (x :: y :: C)) := swapA (A := [x, y])
theorem move3 {x y z : Nat × Obj} {B C : Hp} : (x :: y :: z :: (B ++ C)).Perm (B ++ (x :: y :: z :: C)) := swapA (A := [x, y, z])

/-! ### 5. What is read: cells from an address on -/
def Cs (w : World) (a : Option Addr) (cs : List Value) : Prop := cs = [] ∨ ∃ ad, a = some ad ∧ ∀ i u, cs[i]? = some u → w.cell? (ad.add i) = some u
/-- .. and nobody in L can write them. -/
def Rd (w : World) (L : Hp) (a : Option Addr) (cs : List Value) : Prop := cs = [] ∨ ∃ ad, a = some ad ∧ ad.block ∉ ks L ∧ ∀ i u, cs[i]? = some u → w.cell? (ad.add i) = some u
theorem Rd.cs {w : World} {L : Hp} {a : Option Addr} {cs : List Value} (h : Rd w L a cs) : Cs w a cs := by
  rcases h with h | ⟨ad, e, _, h⟩
  · exact .inl h
  · exact .inr ⟨ad, e, h⟩
theorem block_add (ad : Addr) (i : Nat) : (ad.add i).block = ad.block := by unfold Addr.add; split <;> rfl
theorem cell_of_block {w w' : World} {a : Addr} (h : w'.heap[a.block]? = w.heap[a.block]?) : w'.cell? a = w.cell? a := by simp [World.cell?, h]
theorem Rd.ext {w w' : World} {L L' : Hp} {a : Option Addr} {cs : List Value} (h : Rd w L a cs) (e : Ext w L w' L') : Rd w' L' a cs := by
  rcases h with h | ⟨ad, ea, hn, h⟩
  · exact .inl h
  · rcases cs with _ | ⟨c, cs⟩
    · exact .inl rfl
    · have h0 := h 0 c (by simp)
      have hlt : ad.block < w.heap.size := by have := block_lt_of_cell h0; rwa [block_add] at this
      refine .inr ⟨ad, ea, fun hm => ?_, fun i u hu => ?_⟩
      · rcases e.new _ hm with h1 | h1
        · exact hn h1
        · omega
      · refine (cell_of_block ?_).trans (h i u hu)
        rw [block_add]
        exact e.keep _ hlt hn
theorem Rd.nil (w : World) (L : Hp) (a : Option Addr) : Rd w L a [] := .inl rfl
theorem Cs.at_ {w : World} {a : Option Addr} {cs : List Value} (h : Cs w a cs) {i : Nat} {u : Value} (hu : cs[i]? = some u) : ∃ ad, a = some ad ∧ w.cell? (ad.add i) = some u := by
  rcases h with rfl | ⟨ad, e, h⟩
  · simp at hu
  · exact ⟨ad, e, h i u hu⟩
theorem add_add (ad : Addr) (i j : Nat) : (ad.add i).add j = ad.add (i + j) := by
  unfold Addr.add
  by_cases h1 : i = 0 <;> by_cases h2 : j = 0 <;> simp [h1, h2, Nat.add_assoc]
theorem Cs.part {w : World} {a : Option Addr} {xs ys zs : List Value} {k : Nat} (hk : xs.length = k) (h : Cs w a (xs ++ ys ++ zs)) : Cs w (a.map (·.add k)) ys := by
  rcases h with h | ⟨ad, e, h⟩
  · exact .inl (by simp at h; exact h.2.1)
  · subst e
    rcases ys with _ | ⟨y, ys⟩
    · exact .inl rfl
    · refine .inr ⟨ad.add k, rfl, fun i u hu => ?_⟩
      rw [add_add]
      refine h (k + i) u ?_
      rw [List.append_assoc, List.getElem?_append_right (by omega)]
      have : k + i - xs.length = i := by omega
      rw [this]
      have hl := (List.getElem?_eq_some_iff.1 hu).1
      rw [List.getElem?_append_left hl]
      exact hu
theorem Rd.part {w : World} {L : Hp} {a : Option Addr} {xs ys zs : List Value} {k : Nat} (hk : xs.length = k) (h : Rd w L a (xs ++ ys ++ zs)) : Rd w L (a.map (·.add k)) ys := by
  rcases h with h | ⟨ad, e, hn, h⟩
  · exact .inl (by simp at h; exact h.2.1)
  · subst e
    rcases Cs.part hk (.inr ⟨ad, rfl, h⟩ : Cs w (some ad) (xs ++ ys ++ zs)) with h1 | ⟨ad', e', h'⟩
    · exact .inl h1
    · injection e' with e'
      subst e'
      exact .inr ⟨_, rfl, by rw [block_add]; exact hn, h'⟩
theorem Rd.take {w : World} {L : Hp} {a : Option Addr} {ys zs : List Value} (h : Rd w L a (ys ++ zs)) : Rd w L a ys := by
  rcases h with h | ⟨ad, e, hn, h⟩
  · exact .inl (by simp at h; exact h.1)
  · exact .inr ⟨ad, e, hn, fun i u hu => h i u (by rw [List.getElem?_append_left (List.getElem?_eq_some_iff.1 hu).1]; exact hu)⟩

/-! ### 6. Slices that the call owns -/
def OwnSl (t : TypeId) (size : Nat) (a : Option Addr) (n cap : Nat) (cs : List Value) (S : Hp) : Prop :=
  cs.length = n * size ∧ ((a = none ∧ n = 0 ∧ cap = 0 ∧ S = []) ∨
    ∃ g tail, a = some ⟨g, 0, none⟩ ∧ S = [(g, .cells (cs ++ tail).toArray t (0, 0))] ∧ (cs ++ tail).length = cap * size ∧ n ≤ cap ∧ cap ≤ maxLen)
theorem OwnSl.nil (t : TypeId) (size : Nat) : OwnSl t size none 0 0 [] [] := ⟨by simp, .inl ⟨rfl, rfl, rfl, rfl⟩⟩
theorem add_row (g j : Nat) : (⟨g, 0, none⟩ : Addr).add j = ⟨g, j, none⟩ := by unfold Addr.add; split <;> simp_all
theorem cell_row {w : World} {g : Nat} {cs : Array Value} {t : TypeId} {fr : Nat × Nat} (h : w.heap[g]? = some (.cells cs t fr)) (j : Nat) : w.cell? ⟨g, j, none⟩ = cs[j]? := cell_of_row w g j cs t fr h
theorem OwnSl.cs {w : World} {t : TypeId} {size : Nat} {a : Option Addr} {n cap : Nat} {cs : List Value} {S L : Hp} (h : OwnSl t size a n cap cs S) (hO : Own w (S ++ L)) : Cs w a cs := by
  obtain ⟨hl, h⟩ := h
  rcases h with ⟨rfl, rfl, rfl, rfl⟩ | ⟨g, tail, rfl, rfl, hc, hn, hm⟩
  · exact .inl (List.eq_nil_of_length_eq_zero (by omega))
  · refine .inr ⟨_, rfl, fun i u hu => ?_⟩
    have hb : w.heap[g]? = some (.cells (cs ++ tail).toArray t (0, 0)) := hO.at_ (g, .cells (cs ++ tail).toArray t (0, 0)) (by simp)
    rw [add_row, cell_row hb]
    have hi := (List.getElem?_eq_some_iff.1 hu).1
    simp [List.getElem?_append_left hi, hu]
/-- It is handed on, to be read alone. -/
theorem OwnSl.drop {w : World} {t : TypeId} {size : Nat} {a : Option Addr} {n cap : Nat} {cs : List Value} {S L : Hp} (h : OwnSl t size a n cap cs S) (hO : Own w (S ++ L)) : Own w L ∧ Ext w (S ++ L) w L ∧ Rd w L a cs := by
  refine ⟨hO.r, Ext.dropL w S L, ?_⟩
  rcases h.cs hO with h0 | ⟨ad, e, hc⟩
  · exact .inl h0
  · rcases h.2 with ⟨rfl, _⟩ | ⟨g, tail, rfl, rfl, _⟩
    · cases e
    · injection e with e
      subst e
      refine .inr ⟨_, rfl, fun hm => ?_, hc⟩
      have := hO.nodup
      simp only [ks, List.map_append, List.map_cons, List.map_nil, List.singleton_append, List.nodup_cons] at this
      exact this.1 hm
theorem OwnSl.le {t : TypeId} {size : Nat} {a : Option Addr} {n cap : Nat} {cs : List Value} {S : Hp} (h : OwnSl t size a n cap cs S) : n ≤ cap ∧ cap ≤ maxLen ∧ cs.length = n * size := by
  rcases h with ⟨hl, ⟨rfl, rfl, rfl, rfl⟩ | ⟨g, tail, rfl, rfl, hc, hn, hm⟩⟩
  · exact ⟨Nat.le_refl _, Nat.zero_le _, hl⟩
  · exact ⟨hn, hm, hl⟩
/-- In the kit's word. -/
theorem OwnSl.row {w : World} {t : TypeId} {size : Nat} {a : Option Addr} {n cap : Nat} {cs : List Value} {S L : Hp} (h : OwnSl t size a n cap cs S) (hO : Own w (S ++ L)) : w.ownsRow 0 t size (.slice a n cap) n cs := by
  obtain ⟨hl, h⟩ := h
  refine ⟨hl, ?_⟩
  rcases h with ⟨rfl, rfl, rfl, rfl⟩ | ⟨g, tail, rfl, rfl, hc, hn, hm⟩
  · exact .inl ⟨rfl, rfl⟩
  · have hb : w.heap[g]? = some (.cells (cs ++ tail).toArray t (0, 0)) := hO.at_ (g, .cells (cs ++ tail).toArray t (0, 0)) (by simp)
    refine .inr ⟨g, cap, _, rfl, Nat.zero_le _, hb, hn, hm, by simpa using hc, ?_⟩
    rw [← hl]
    simp
theorem OwnSl.of_row {w : World} {t : TypeId} {size : Nat} {v : Value} {n : Nat} {cs : List Value} (h : w.ownsRow 0 t size v n cs) :
    ∃ a cap S, v = .slice a n cap ∧ OwnSl t size a n cap cs S ∧ (∀ p, p ∈ S → w.heap[p.1]? = some p.2) ∧ ks S = v.ownBlock.toList := by
  obtain ⟨hl, h⟩ := h
  rcases h with ⟨rfl, rfl⟩ | ⟨g, cap, cur, rfl, _, hh, hn, hm, hs, ht⟩
  · exact ⟨none, 0, [], rfl, ⟨hl, .inl ⟨rfl, rfl, rfl, rfl⟩⟩, (fun p hp => by cases hp), rfl⟩
  · refine ⟨some ⟨g, 0, none⟩, cap, [(g, .cells cur t (0, 0))], rfl, ⟨hl, .inr ⟨g, cur.toList.drop (n * size), rfl, ?_, ?_, hn, hm⟩⟩, ?_, rfl⟩
    · rw [← ht]; simp
    · rw [← ht]; simp; omega
    · intro p hp
      simp at hp
      subst hp
      exact hh
end Go.GV
