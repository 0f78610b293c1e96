/- A part of the proof that the row of the law holds of the program as translated: lemmas and contracts of its functions. -/
import Derived.Test.YtbigpfenlmfhgaaGvF
set_option linter.unusedVariables false
set_option linter.unusedSimpArgs false
namespace Go.GV
/-! ### 14. Regions that draw their order: every order, with what the loads need (S) kept till operation k, the first of a tail that waits for all -/
section
variable {P : Program} {ops : Array Oper} {Q : Exit → Act → World → Prop} {n k : Nat} {f : Fr} {w : World} {S : World → Prop}
def AnyK (P : Program) (ops : Array Oper) (Q : Exit → Act → World → Prop) (S : World → Prop) (k : Nat) : Nat → Array Bool → Act → World → Prop
  | 0, listed, a, w => Region.ready .any ops listed = [] ∧ Q .normal a w
  | fuel + 1, listed, a, w => (Region.ready .any ops listed = [] → Q .normal a w) ∧
      ∀ i ∈ Region.ready .any ops listed, wpOp P ops Q i (fun a' w' => ((listed.setIfInBounds i true).getD k false = true ∨ S w') ∧ AnyK P ops Q S k fuel (listed.setIfInBounds i true) a' w') a w
theorem AnyK.any : ∀ (fuel : Nat) (listed : Array Bool) (a : Act) (w : World), AnyK P ops Q S k fuel listed a w → wpAny P .any ops Q fuel listed a w
  | 0, _, _, _, h => h
  | fuel + 1, _, _, _, h => ⟨h.1, fun i hi => wpOp_mono (fun a' w' h' => AnyK.any fuel _ a' w' h'.2) (h.2 i hi)⟩
theorem AnyK.first {i : Nat} {oi : Oper} {v : Value} (hi : ops[i]? = some oi) (hsel : ∀ (j : Nat) (o : Oper) cs b, ops[j]? = some o → o.op ≠ .select cs b) (hQ : ∀ c a w, Q (.panic c) (a.put oi.dst v) w → Q (.panic c) a w)
    (hk : ∀ ok, ops[k]? = some ok → ∃ e, e ∈ ok.after ∧ Region.binds .any e = true ∧ e.on = i) :
    ∀ (fuel : Nat) (listed : Array Bool) (a : Act) (w : World), listed.getD k false = false →
      (∀ j oj, ops[j]? = some oj → j ≠ i → listed.getD j true = false → (∀ e ∈ oj.after, Region.binds .any e = true → e.on ≠ i) → oi.apart ops oj = true) →
      i ∈ Region.ready .any ops listed → YieldsIf P ops S oi v a → S w →
      AnyK P ops Q S k fuel (listed.setIfInBounds i true) (a.put oi.dst v) w → AnyK P ops Q S k (fuel + 1) listed a w := by
  intro fuel
  induction fuel with
  | zero =>
    intro listed a w hlk _ hr hy hS H
    refine ⟨fun h0 => (by rw [h0] at hr; cases hr), fun j hj => ?_⟩
    by_cases hji : j = i
    · subst hji
      exact hy.wpOp hi hS ⟨.inr hS, H⟩
    · have h1 := ready_mono hj hji
      rw [H.1] at h1
      cases h1
  | succ fuel ih =>
    intro listed a w hlk hfree hr hy hS H
    refine ⟨fun h0 => (by rw [h0] at hr; cases hr), fun j hj => ?_⟩
    by_cases hji : j = i
    · subst hji
      exact hy.wpOp hi hS ⟨.inr hS, H⟩
    · obtain ⟨hun, oj, hoj, hall⟩ := mem_ready.1 hj
      have hiun := (mem_ready.1 hr).1
      -- j doesn't wait for i
      have hnw : ∀ e ∈ oj.after, Region.binds .any e = true → e.on ≠ i := by
        intro e he hb heq
        have hl := hall e he hb
        rw [heq] at hl
        rcases Nat.lt_or_ge i listed.size with h' | h'
        · simp [h'] at hiun hl
          rw [hiun] at hl
          cases hl
        · simp [Array.getElem?_eq_none h'] at hl
      have hjk : j ≠ k := by
        rintro rfl
        obtain ⟨e, he, hb, heq⟩ := hk oj hoj
        exact hnw e he hb heq
      have hput := wpOp_putIf hoj (hfree j oj hoj hji hun hnw) (fun cs b => hsel i oi cs b hi) (fun cs b => hsel j oj cs b hoj) hQ hy (H.2 j (ready_mono hj hji))
      have hlk1 : (listed.setIfInBounds j true).getD k false = false := by rw [getD_set_ne false hjk]; exact hlk
      have hlk2 : ((listed.setIfInBounds i true).setIfInBounds j true).getD k false = false ∨ i = k := by
        by_cases hik : i = k
        · exact .inr hik
        · left; rw [getD_set_ne false hjk, getD_set_ne false hik]; exact hlk
      refine wpOp_mono (fun a' w' h3 => ?_) hput
      obtain ⟨hy', hS', hrest⟩ := h3
      have hS'' : S w' := by
        rcases hlk2 with h | h
        · rcases hS' with h1 | h1
          · rw [h] at h1; cases h1
          · exact h1
        · subst h
          obtain ⟨e, he, hb, heq⟩ := hk oi hi
          exfalso
          have hl := (mem_ready.1 hr).2
          obtain ⟨oi', hoi', hall'⟩ := hl
          rw [hi] at hoi'
          injection hoi' with hoi'
          subst hoi'
          have := hall' e he hb
          rw [heq] at this
          rcases Nat.lt_or_ge i listed.size with h' | h'
          · simp [h'] at hiun this
            rw [hiun] at this
            cases this
          · simp [Array.getElem?_eq_none h'] at this
      refine ⟨.inr hS'', ih (listed.setIfInBounds j true) a' w' hlk1 ?_ (ready_mono hr (Ne.symm hji)) hy' hS'' (by rw [Array.setIfInBounds_comm _ _ hji]; exact hrest)⟩
      intro q oq hoq hqi hqun hno
      refine hfree q oq hoq hqi ?_ hno
      by_cases hjq : j = q
      · subst hjq; exact hun
      · rw [getD_set_ne true hjq] at hqun; exact hqun
/-- The tail's first operation waits for number i. -/
def waitsB (ops : Array Oper) (k i : Nat) : Bool := match ops[k]? with
  | none => true
  | some ok => ok.after.any fun e => Region.binds .any e && e.on == i
theorem waitsB_spec {i : Nat} (h : waitsB ops k i = true) : ∀ ok, ops[k]? = some ok → ∃ e, e ∈ ok.after ∧ Region.binds .any e = true ∧ e.on = i := by
  intro ok ho
  simp only [waitsB, ho] at h
  obtain ⟨e, he, hb⟩ := Array.any_eq_true'.1 h
  simp only [Bool.and_eq_true, beq_iff_eq] at hb
  exact ⟨e, he, hb.1, hb.2⟩
def WH (P : Program) (ops : Array Oper) (Q : Exit → Act → World → Prop) (S : World → Prop) (k n : Nat) (fuel : Nat) (listed : Array Bool) (f : Fr) (w : World) : Prop := AnyK P ops Q S k fuel listed (act n f) w
theorem d_start {id : Nat} {l : List Oper} (S : World → Prop) (k : Nat) (hm : P.follows .mixedOrders = true) (h : WH P l.toArray Q S k n l.length (Array.replicate l.length false) f w.drew) : (Code.region id l.toArray true).wp P Q (act n f) w :=
  wp_region_any hm (AnyK.any _ _ _ _ (by simpa [WH] using h))
/-- What is asked of an operation that is taken first. -/
def okB (ops : Array Oper) (listed : Array Bool) (k i : Nat) : Bool := Region.noSelect ops && Region.free .any ops listed i && (Region.ready .any ops listed).contains i && waitsB ops k i && !(listed.getD k false)
theorem d_take {l : List Oper} {i fuel : Nat} {listed listed' : Array Bool} {o : Oper} {v : Value} (hi : l[i]? = some o) (hb : okB l.toArray listed k i = true) (hl : listed.setIfInBounds i true = listed')
    (hQ : ∀ c a w, Q (.panic c) (a.put o.dst v) w → Q (.panic c) a w) (hg : o.guard = none) (hS : S w) (hy : ∀ w, S w → (execOp (ev n f) o).run P w = .ok (.value v) w)
    (h : WH P l.toArray Q S k n fuel listed' (pt f o.dst v) w) : WH P l.toArray Q S k n (fuel + 1) listed f w := by
  subst hl
  simp only [okB, Bool.and_eq_true, Bool.not_eq_true'] at hb
  obtain ⟨⟨⟨⟨h1, h2⟩, h3⟩, h4⟩, h5⟩ := hb
  refine AnyK.first (ops := l.toArray) (by simpa using hi) (Region.noSelect_spec h1) hQ (waitsB_spec h4) fuel listed _ w h5 (Region.free_spec (ops := l.toArray) (by simpa using hi) h2) (by simpa using h3) (.inl ⟨by simp [Region.wanted, hg], fun w hw => by rw [act_eval]; exact hy w hw⟩) hS ?_
  rw [act_put]
  exact h
theorem d_takeG {l : List Oper} {i fuel j : Nat} (dj : Tmp) {want : Bool} {listed listed' : Array Bool} {o : Oper} {v : Value} (hi : l[i]? = some o) (hb : okB l.toArray listed k i = true) (hl : listed.setIfInBounds i true = listed')
    (hQ : ∀ c a w, Q (.panic c) (a.put o.dst v) w → Q (.panic c) a w) (hg : o.guard = some (j, want)) (hj : (l[j]?).bind (·.dst) = some dj) (hv : ev n f (.tmp dj) = .bool want) (hS : S w) (hy : ∀ w, S w → (execOp (ev n f) o).run P w = .ok (.value v) w)
    (h : WH P l.toArray Q S k n fuel listed' (pt f o.dst v) w) : WH P l.toArray Q S k n (fuel + 1) listed f w := by
  subst hl
  simp only [okB, Bool.and_eq_true, Bool.not_eq_true'] at hb
  obtain ⟨⟨⟨⟨h1, h2⟩, h3⟩, h4⟩, h5⟩ := hb
  refine AnyK.first (ops := l.toArray) (by simpa using hi) (Region.noSelect_spec h1) hQ (waitsB_spec h4) fuel listed _ w h5 (Region.free_spec (ops := l.toArray) (by simpa using hi) h2) (by simpa using h3) (.inl ⟨?_, fun w hw => by rw [act_eval]; exact hy w hw⟩) hS ?_
  · have hyy := yielded_act (ops := l.toArray) (n := n) (f := f) j (by simpa using hj) hv
    simp only [Region.wanted, hg, hyy, beq_self_eq_true]
  · rw [act_put]
    exact h
theorem d_skipG {l : List Oper} {i fuel j : Nat} (dj : Tmp) {want b : Bool} {listed listed' : Array Bool} {o : Oper} (hi : l[i]? = some o) (hb : okB l.toArray listed k i = true) (hl : listed.setIfInBounds i true = listed')
    (hQ : ∀ c a w, Q (.panic c) (a.put o.dst undef) w → Q (.panic c) a w) (hg : o.guard = some (j, want)) (hj : (l[j]?).bind (·.dst) = some dj) (hv : ev n f (.tmp dj) = .bool b) (hne : (b == want) = false) (hS : S w)
    (h : WH P l.toArray Q S k n fuel listed' (pt f o.dst undef) w) : WH P l.toArray Q S k n (fuel + 1) listed f w := by
  subst hl
  simp only [okB, Bool.and_eq_true, Bool.not_eq_true'] at hb
  obtain ⟨⟨⟨⟨h1, h2⟩, h3⟩, h4⟩, h5⟩ := hb
  refine AnyK.first (ops := l.toArray) (v := undef) (by simpa using hi) (Region.noSelect_spec h1) hQ (waitsB_spec h4) fuel listed _ w h5 (Region.free_spec (ops := l.toArray) (by simpa using hi) h2) (by simpa using h3) (.inr ⟨?_, rfl⟩) hS ?_
  · have hyy := yielded_act (ops := l.toArray) (n := n) (f := f) j (by simpa using hj) hv
    simp only [Region.wanted, hg, hyy]
    cases b <;> cases want <;> simp_all
  · rw [act_put]
    exact h
/-- The post of one operation that is walked inside such a region. -/
def QD (P : Program) (ops : Array Oper) (Q : Exit → Act → World → Prop) (S : World → Prop) (k n fuel : Nat) (listed : Array Bool) : Exit → Act → World → Prop
  | .normal, a, w => ∃ f', a = act n f' ∧ (listed.getD k false = true ∨ S w) ∧ WH P ops Q S k n fuel listed f' w
  | e, a, w => Q e a w
theorem d_op {l : List Oper} {i fuel : Nat} {listed listed' : Array Bool} {o : Oper} (hi : l[i]? = some o) (hl : listed.setIfInBounds i true = listed')
    (h : wpList P l.toArray (QD P l.toArray Q S k n fuel listed') [o] (act n f) w) :
    wpOp P l.toArray Q i (fun a' w' => ((listed.setIfInBounds i true).getD k false = true ∨ S w') ∧ AnyK P l.toArray Q S k fuel (listed.setIfInBounds i true) a' w') (act n f) w := by
  subst hl
  have hi' : l.toArray[i]? = some o := by simpa using hi
  unfold wpOp
  rw [hi']
  unfold wpList at h
  simp only at h ⊢
  split
  · rename_i hw
    rw [if_pos hw] at h
    rcases h with h | ⟨h1, a0, w0, h2⟩
    · refine .inl ?_
      unfold Oper.wp at h ⊢
      generalize (execOp (act n f).eval o).run P w = r at h ⊢
      cases r with
      | ok x w' =>
        cases x <;> simp only [Oper.upon] at h ⊢
        case value v => obtain ⟨f', e, hs, hk⟩ := h; exact ⟨hs, by rw [e]; exact hk⟩
        case skip => obtain ⟨f', e, hs, hk⟩ := h; exact ⟨hs, by rw [e]; exact hk⟩
        case defer dd => obtain ⟨f', e, hs, hk⟩ := h; exact ⟨hs, by rw [e]; exact hk⟩
        case enter g args =>
          refine Calls.mono h fun e w'' he => ?_
          cases e with
          | returned v => obtain ⟨f', e, hs, hk⟩ := he; exact ⟨hs, by rw [e]; exact hk⟩
          | panicked c => exact he
          | outgrown => obtain ⟨a0, w0, h2⟩ := he; exact ⟨a0, w0, h2⟩
        case row rw_ args =>
          refine Rows.mono h fun v w'' he => ?_
          obtain ⟨f', e, hs, hk⟩ := he; exact ⟨hs, by rw [e]; exact hk⟩
      | halt x w' => cases x <;> simp only [Oper.upon] at h ⊢ <;> exact h
    · exact .inr ⟨h1, a0, w0, h2⟩
  · rename_i hw
    rw [if_neg hw] at h
    obtain ⟨f', e, hs, hk⟩ := h
    exact ⟨hs, by rw [e]; exact hk⟩
theorem d_one {l : List Oper} {i fuel : Nat} {listed listed' : Array Bool} {o : Oper} (hi : l[i]? = some o) (hr : Region.ready .any l.toArray listed = [i]) (hl : listed.setIfInBounds i true = listed')
    (h : wpList P l.toArray (QD P l.toArray Q S k n fuel listed') [o] (act n f) w) : WH P l.toArray Q S k n (fuel + 1) listed f w :=
  ⟨fun h0 => (by rw [hr] at h0; cases h0), fun j hj => by
    rw [hr] at hj
    simp only [List.mem_singleton] at hj
    subst hj
    exact d_op hi hl h⟩
theorem d_two {l : List Oper} {i j fuel : Nat} {listed l1 l2 : Array Bool} {o1 o2 : Oper} (hi : l[i]? = some o1) (hj : l[j]? = some o2) (hr : Region.ready .any l.toArray listed = [i, j]) (hl1 : listed.setIfInBounds i true = l1) (hl2 : listed.setIfInBounds j true = l2)
    (h1 : wpList P l.toArray (QD P l.toArray Q S k n fuel l1) [o1] (act n f) w) (h2 : wpList P l.toArray (QD P l.toArray Q S k n fuel l2) [o2] (act n f) w) : WH P l.toArray Q S k n (fuel + 1) listed f w :=
  ⟨fun h0 => (by rw [hr] at h0; cases h0), fun q hq => by
    rw [hr] at hq
    simp only [List.mem_cons, List.not_mem_nil, or_false] at hq
    rcases hq with rfl | rfl
    · exact d_op hi hl1 h1
    · exact d_op hj hl2 h2⟩
theorem d_back {fuel : Nat} {listed : Array Bool} (hS : S w) (h : WH P ops Q S k n fuel listed f w) : wpList P ops (QD P ops Q S k n fuel listed) [] (act n f) w := ⟨f, rfl, .inr hS, h⟩
theorem d_tail {fuel : Nat} {listed : Array Bool} (hk : listed.getD k false = true) (h : WH P ops Q S k n fuel listed f w) : wpList P ops (QD P ops Q S k n fuel listed) [] (act n f) w := ⟨f, rfl, .inl hk, h⟩
theorem d_done {listed : Array Bool} (hr : Region.ready .any ops listed = []) (h : Q .normal (act n f) w) : WH P ops Q S k n 0 listed f w := ⟨hr, h⟩
theorem d_next {listed : Array Bool} {K : Act → World → Prop} {Q' : Exit → Act → World → Prop} (hr : Region.ready .any ops listed = []) (h : K (act n f) w) : WH P ops (Exit.then K Q') S k n 0 listed f w := ⟨hr, h⟩
end
/-! What a region's loads need: all outside of L is as it was, and Lk is there. -/
structure Kept (w : World) (L Lk : Hp) (w' : World) : Prop where
  out : ∀ b, b < w.heap.size → b ∉ ks L → w'.heap[b]? = w.heap[b]?
  own : Own w' Lk
theorem Kept.start {w : World} {L : Hp} (h : Own w L) : Kept w L L w.drew := ⟨fun _ _ _ => rfl, own_drew h⟩
theorem Kept.start' {w : World} {L Lk : Hp} (h : Own w Lk) : Kept w L Lk w.drew := ⟨fun _ _ _ => rfl, own_drew h⟩
theorem Kept.to {w w' : World} {L L' Lk : Hp} (e : Ext w L w' L') (h : Own w' Lk) : Kept w L Lk w' := ⟨e.keep, h⟩
theorem Kept.blk {w w' : World} {L Lk : Hp} {b : Nat} {o : Obj} (h : Kept w L Lk w') (i : Nat) (hp : Lk[i]? = some (b, o)) : w'.heap[b]? = some o := h.own.get hp
theorem Rd.kept {w w' : World} {L Lk : Hp} {a : Option Addr} {cs : List Value} (h : Rd w L a cs) (k : Kept w L Lk w') : Cs w' a cs := by
  rcases h with h | ⟨ad, ea, hn, h⟩
  · exact .inl h
  · rcases cs with _ | ⟨c, cs⟩
    · exact .inl rfl
    · have h0 := h 0 c (by simp)
      have hlt : ad.block < w.heap.size := by have := block_lt_of_cell h0; rwa [block_add] at this
      refine .inr ⟨ad, ea, fun i u hu => (cell_of_block ?_).trans (h i u hu)⟩
      rw [block_add]
      exact k.out _ hlt hn
/-- An element's address, found ahead. -/
theorem idx_get {w : World} {a : Option Addr} {size i : Nat} {css : List (List Value)} {el : List Value} (hR : Cs w a css.flatten) (hl : ∀ e ∈ css, e.length = size) (hs : 0 < size) (hi : css[i]? = some el) :
    ∃ ad, a = some ad ∧ ∀ w', Cs w' a css.flatten → ∀ j u, el[j]? = some u → w'.cell? ((ad.add (i * size)).add j) = some u := by
  have hel : el.length = size := hl el (List.mem_of_getElem? hi)
  obtain ⟨u0, hu0⟩ : ∃ u, el[0]? = some u := ⟨el[0]'(by omega), by simp⟩
  have h0' := flat_el hl hi hu0
  rcases hR with hR | ⟨ad, rfl, hc⟩
  · rw [hR] at h0'; simp at h0'
  · refine ⟨ad, rfl, fun w' h' j u hu => ?_⟩
    rcases h' with h' | ⟨ad', e, h'⟩
    · rw [h'] at h0'; simp at h0'
    · injection e with e
      subst e
      rw [add_add]
      exact h' _ u (flat_el hl hi hu)
/-- A panic isn't told by the frame's slots. -/
def PanicOK (Q : Exit → Act → World → Prop) : Prop := ∀ c (a : Act) d v w, Q (.panic c) (a.put d v) w → Q (.panic c) a w
theorem pk_then {K : Act → World → Prop} {Q : Exit → Act → World → Prop} (h : PanicOK Q) : PanicOK (Exit.then K Q) := h
theorem pk_block {id : Nat} {Q : Exit → Act → World → Prop} (h : PanicOK Q) : PanicOK (Exit.inBlock id Q) := h
theorem pk_body {P : Program} {fn : Func} {R : Ending → World → Prop} : PanicOK (bodyPost P fn R) := fun c a d v w h => ⟨by cases d <;> exact h.1, h.2⟩
theorem PanicOK.t {Q : Exit → Act → World → Prop} {d : Option Tmp} {v : Value} (h : PanicOK Q) : ∀ c a w, Q (.panic c) (a.put d v) w → Q (.panic c) a w := fun c a w => h c a d v w
theorem PanicOK.u {Q : Exit → Act → World → Prop} {d : Tmp} (h : PanicOK Q) : ∀ (v : Value) c (a : Act) w, Q (.panic c) (a.put (some d) v) w → Q (.panic c) a w := fun v c a w => h c a (some d) v w
theorem d_startK {P : Program} {Q : Exit → Act → World → Prop} {n : Nat} {f : Fr} {w : World} {id : Nat} {l : List Oper} {L : Hp} (hO : Own w L) (k : Nat) (hm : P.follows .mixedOrders = true) (hP : PanicOK Q)
    (h : PanicOK Q → ∀ wd, Kept w L L wd → Own wd L → Ext w L wd L → WH P l.toArray Q (Kept w L L) k n l.length (Array.replicate l.length false) f wd) : (Code.region id l.toArray true).wp P Q (act n f) w :=
  d_start (Kept w L L) k hm (h hP _ (Kept.start hO) (own_drew hO) (ext_drew w L))
theorem d_startL {P : Program} {Q : Exit → Act → World → Prop} {n : Nat} {f : Fr} {w : World} {id : Nat} {l : List Oper} {L Lk : Hp} (hO : Own w L) (hk : Own w Lk) (k : Nat) (hm : P.follows .mixedOrders = true) (hP : PanicOK Q)
    (h : PanicOK Q → ∀ wd, Kept w L Lk wd → Own wd L → Ext w L wd L → WH P l.toArray Q (Kept w L Lk) k n l.length (Array.replicate l.length false) f wd) : (Code.region id l.toArray true).wp P Q (act n f) w :=
  d_start (Kept w L Lk) k hm (h hP _ (Kept.start' hk) (own_drew hO) (ext_drew w L))
/-! Places of a list of blocks -/
theorem pm0 {S L : Hp} : (S ++ L).Perm (S ++ L) := List.Perm.refl _
theorem pmN {L : Hp} : L.Perm ([] ++ L) := List.Perm.refl _
theorem pmC {x : Nat × Obj} {C S L : Hp} (h : C.Perm (S ++ L)) : (x :: C).Perm (S ++ (x :: L)) := (h.cons x).trans List.perm_middle.symm
theorem pmA {A C S L : Hp} (h : C.Perm (S ++ L)) : (A ++ C).Perm (S ++ (A ++ L)) := (h.append_left A).trans swapA
theorem pmb0 {x : Nat × Obj} {L : Hp} : (x :: L).Perm (x :: L) := List.Perm.refl _
theorem pmbC {x y : Nat × Obj} {C L : Hp} (h : C.Perm (x :: L)) : (y :: C).Perm (x :: (y :: L)) := (h.cons y).trans (List.Perm.swap x y L)
theorem pmbA {x : Nat × Obj} {A C L : Hp} (h : C.Perm (x :: L)) : (A ++ C).Perm (x :: (A ++ L)) := (h.append_left A).trans List.perm_middle
theorem Ext.permB {w w' : World} {L L' M M' : Hp} (e : Ext w L w' L') (p : M.Perm L) (p' : L'.Perm M') : Ext w M w' M' := (Ext.perm w p).trans (e.trans (Ext.perm w' p'))
theorem cellB {w : World} {a : Addr} {b o : Nat} {arr : Array Value} {T : TypeId} {fr : Nat × Nat} {v : Value} (hb : w.heap[b]? = some (.cells arr T fr)) (ha : a = ⟨b, o, none⟩) (hv : arr[o]? = some v) : w.cell? a = some v := by
  subst ha; exact (cell_row hb o).trans hv
theorem cellsB {w : World} {a : Addr} {b o : Nat} {arr : Array Value} {T : TypeId} {fr : Nat × Nat} {cs : List Value} (hb : w.heap[b]? = some (.cells arr T fr)) (ha : a = ⟨b, o, none⟩) (hcs : (arr.toList.drop o).take cs.length = cs) : ∀ i v, cs[i]? = some v → w.cell? (a.add i) = some v := by
  subst ha; exact cells_at hb hcs
theorem s_loadAll {P : Program} {ops : Array Oper} {Q : Exit → Act → World → Prop} {rest : List Oper} {n : Nat} {f : Fr} {w : World} {d : Tmp} {ty t : TypeId} {pos : String} {af : Array Edge} {x : Operand} {u : TypeDesc} {a : Addr} {b : Nat} {arr : Array Value} {T : TypeId} {fr : Nat × Nat} {zv : Value} {size bytes : Nat}
    (ht : P.underlying t = some u) (hu : aggB u = true) (hI : TI P t zv size bytes) (hx : ev n f x = .pointer (some a)) (hb : w.heap[b]? = some (.cells arr T fr)) (ha : a = ⟨b, 0, none⟩) (hl : arr.size = size)
    (k : wpList P ops Q rest (act n (upd f d (.agg arr))) w) : wpList P ops Q (⟨some d, .load t x, ty, pos, af, none⟩ :: rest) (act n f) w :=
  s_loadN (cs := arr.toList) ht hu hI hx (by simpa using hl) (cellsB hb ha (by rw [List.drop_zero, List.take_length])) (by rw [show arr.toList.toArray = arr from by simp]; exact k)
theorem s_loadPart {P : Program} {ops : Array Oper} {Q : Exit → Act → World → Prop} {rest : List Oper} {n : Nat} {f : Fr} {w : World} {d : Tmp} {ty t : TypeId} {pos : String} {af : Array Edge} {x : Operand} {u : TypeDesc} {a : Addr} {b o : Nat} {arr : Array Value} {T : TypeId} {fr : Nat × Nat} {zv : Value} {size bytes : Nat}
    (ht : P.underlying t = some u) (hu : aggB u = true) (hI : TI P t zv size bytes) (hx : ev n f x = .pointer (some a)) (hb : w.heap[b]? = some (.cells arr T fr)) (ha : a = ⟨b, o, none⟩) (hl : o + size ≤ arr.size)
    (k : wpList P ops Q rest (act n (upd f d (.agg ((arr.toList.drop o).take size).toArray))) w) : wpList P ops Q (⟨some d, .load t x, ty, pos, af, none⟩ :: rest) (act n f) w :=
  s_loadN (cs := (arr.toList.drop o).take size) ht hu hI hx (by simp; omega) (cellsB hb ha (by
    have : ((arr.toList.drop o).take size).length = size := by simp; omega
    rw [this])) k
/-- What an element's address is good for, a field of it. -/
theorem cellP {w : World} {p : Addr} {el : List Value} (h : ∀ j u, el[j]? = some u → w.cell? (p.add j) = some u) (j : Nat) {u : Value} (hu : el[j]? = some u) : w.cell? (p.add j) = some u := h j u hu
theorem cellsP {w : World} {p : Addr} {el : List Value} (h : ∀ j u, el[j]? = some u → w.cell? (p.add j) = some u) (o : Nat) {cs : List Value} (hcs : (el.drop o).take cs.length = cs) : ∀ j u, cs[j]? = some u → w.cell? ((p.add o).add j) = some u := by
  intro j u hu
  have hj := (List.getElem?_eq_some_iff.1 hu).1
  rw [add_add]
  refine h (o + j) u ?_
  rw [← hcs, List.getElem?_take_of_lt hj, List.getElem?_drop] at hu
  exact hu
end Go.GV
