/- A part of the proof that the row of the law holds of the program as translated: lemmas and contracts of its functions. -/
import Derived.Test.YtbigpfenlmfhgaaGvT
set_option linter.unusedVariables false
set_option linter.unusedSimpArgs false
namespace Go.GV
open Go.RowKit
section
variable {P : Program}
/-! ### 19. append(v, make([]T, n)...); its first theorem was turned out of a text that print.sh has written -/
theorem run_append_zeros (w : World) (base : Nat) (t ti ty e : TypeId) (i : TypeInfo) (z : Value) (size bytes : Nat) (ht : P.underlying t = some (.slice e)) {k : IntKind} (hti : P.underlying ti = some (.int k)) (hi : P.info? e = some i) (hz : i.zero = some z)
    (hsize : i.size = size) (hby : i.bytes = bytes) (hzs : z.cells.size = size) (hsz : 0 < size) (hb0 : 0 < bytes)
    (v : Value) (n : Nat) (xs : List Value) (hown : w.ownsRow base e size v n xs) (kx : IntKind) (m : Nat) (h1 : ∀ u ∈ (Builtin.zeroCells z.cells m).toList, u.oneCell' = true)
    (hbytes : (n + m) * bytes ≤ 140737488355328) (hbase : base ≤ w.heap.size) :
    ∃ v' w', (Builtin.append_ #[t, ti] ty #[v, .int kx m]).run P w = .ok v' w' ∧ w'.ownsRow base e size v' (n + m) (xs ++ (Builtin.zeroCells z.cells m).toList) ∧ w.grownBy w' v.ownBlock ∧
      (v'.ownBlock = v.ownBlock ∨ v'.ownBlock = some w.heap.size) := by
  subst hsize
  subst hby
  have hle : n + m ≤ 140737488355328 := Nat.le_trans (Nat.le_mul_of_pos_right _ hb0) hbytes
  have h63 : n + m ≤ maxLen := by simp only [maxLen]; omega
  have hw : IntKind.i64.wrap (m : Int) = m := by rw [IntKind.wrap_i64]; omega
  have hw0 : IntKind.i64.wrap 0 = 0 := by rw [IntKind.wrap_i64]; rfl
  have hneg : ¬ ((m : Int) < 0) := by omega
  have hmb : m * i.bytes ≤ 140737488355328 := Nat.le_trans (Nat.mul_le_mul_right _ (Nat.le_add_left m n)) hbytes
  have hbig : ¬ (281474976710656 < (m : Int) * (i.bytes : Int)) := by
    rw [← Int.natCast_mul]
    omega
  have hsn : i.size ≠ 0 := by omega
  obtain ⟨news, hnews⟩ : ∃ news, news = (Builtin.zeroCells z.cells m).toList := ⟨_, rfl⟩
  rw [← hnews] at h1 ⊢
  have hl : news.length = m * i.size := by rw [hnews, Array.length_toList, size_zeroCells, hzs]
  have hna : Builtin.zeroCells z.cells m = news.toArray := by rw [hnews]
  have hlen : (xs ++ news).length = (n + m) * i.size := by rw [List.length_append, hown.1, hl, Nat.add_mul]
  have hnil : m = 0 → news = [] := fun h => List.eq_nil_of_length_eq_zero (by rw [hl, h, Nat.zero_mul])
  have grown : ∀ (old : Nat), old < n + m → ∀ (row : Option Nat),
      (w.drew.alloc (.cells (xs.toArray ++ news.toArray ++ Builtin.zeroCells z.cells (grownCap w (n + m) old e - (n + m))) e)).ownsRow base e i.size
        (.slice (some ⟨w.heap.size, 0, none⟩) (n + m) (grownCap w (n + m) old e)) (n + m) (xs ++ news) ∧
      w.grownBy (w.drew.alloc (.cells (xs.toArray ++ news.toArray ++ Builtin.zeroCells z.cells (grownCap w (n + m) old e - (n + m))) e)) row := by
    intro old ho row
    have hge := grownCap_ge w (n + m) old e
    have hcm : grownCap w (n + m) old e ≤ maxLen := grownCap_le_maxLen w (n + m) old e h63
    refine ⟨⟨hlen, .inr ⟨w.heap.size, _, _, rfl, hbase, heap_alloc_new w.drew _, hge, hcm, ?_, ?_⟩⟩, ⟨rfl, rfl, rfl, by simp, fun k hk _ => heap_alloc_old w.drew _ hk⟩⟩
    · simp only [Array.size_append, List.size_toArray, size_zeroCells, hzs, hown.1, hl, ← Nat.add_mul]
      congr 1
      omega
    · simp only [Array.toList_append, List.append_assoc]
      rw [← List.append_assoc, ← hlen]
      exact List.take_left
  have runs : ∀ (A : Option Addr) (cap : Nat), cap < n + m → (Builtin.firstCells i.size n (.slice A n cap)).run P w.drew = .ok xs.toArray w.drew → (Builtin.append_ #[t, ti] ty #[.slice A n cap, .int kx m]).run P w =
      .ok (.slice (some ⟨w.heap.size, 0, none⟩) (n + m) (grownCap w (n + m) cap e)) (w.drew.alloc (.cells (xs.toArray ++ news.toArray ++ Builtin.zeroCells z.cells (grownCap w (n + m) cap e - (n + m))) e)) := by
    intro A cap hcap hfo
    have hn : ¬ (n + m ≤ cap) := by omega
    have h63' : ¬ (9223372036854775807 < ((n : Int) + (m : Int))) := by omega
    have hfit := growslice_fits hcap hbytes
    have h48' : ¬ (281474976710656 < Builtin.nextslicecap (n + m) cap * i.bytes) := by omega
    by_cases hm : m = 0
    · have hnl := hnil hm
      subst hm
      rw [hnl]
      simp only [Nat.add_zero] at hn h63' h48' ⊢
      have h63'' : ¬ (9223372036854775807 < (n : Int)) := by omega
      simp [Builtin.append_, run_underlying ht, run_underlying hti, sizeOf, typeInfo, zeroValue, hi, hz, asInt, asIntOf, hw0, hn, h63'', h48', Question.forced, hfo, newRow, grownCap]
    · have hmz : ¬ (m * i.size = 0) := Nat.mul_ne_zero hm hsn
      simp [Builtin.append_, run_underlying ht, run_underlying hti, sizeOf, typeInfo, zeroValue, hi, hz, asInt, asIntOf, hw, hneg, hbig, hn, h63', h48', Question.forced, hfo, newRow, grownCap, hmz, hna]
      congr 2
      apply Array.ext'
      simp [List.append_assoc]
  rcases hown.2 with ⟨rfl, rfl⟩ | ⟨g, cap, cur, rfl, hbg, hg, hnc, hcm, hcs, htake⟩
  · have hx : xs = [] := List.eq_nil_of_length_eq_zero (by simpa using hown.1)
    subst hx
    by_cases hm : m = 0
    · have hnl := hnil hm
      subst hm
      rw [hnl]
      refine ⟨.slice none 0 0, w, ?_, World.ownsRow_nil w base e i.size, ⟨rfl, rfl, rfl, Nat.le_refl _, fun _ _ _ => rfl⟩, Or.inl rfl⟩
      simp [Builtin.append_, run_underlying ht, run_underlying hti, sizeOf, typeInfo, hi, asInt, asIntOf, hw0]
    · have hgr := grown 0 (by omega) (Value.ownBlock (.slice none 0 0))
      exact ⟨_, _, runs none 0 (by omega) (by simp [Builtin.firstCells]), hgr.1, hgr.2, Or.inr rfl⟩
  · by_cases hroom : n + m ≤ cap
    · have hfit : n * i.size + news.length ≤ cur.size := by rw [hl, hcs, ← Nat.add_mul]; exact Nat.mul_le_mul_right _ hroom
      have hst := run_storeCells_at (P := P) g (n * i.size) e news 0 cur w hg (by omega) h1
      simp only [Nat.add_zero] at hst
      have hlcur : cur.toList.length = cur.size := by simp
      obtain ⟨nc, hnc'⟩ : ∃ nc, nc = (cur.toList.take (n * i.size) ++ news ++ cur.toList.drop (n * i.size + news.length)).toArray := ⟨_, rfl⟩
      rw [← hnc'] at hst
      refine ⟨.slice (some ⟨g, 0, none⟩) (n + m) cap, w.setRow g nc, ?_, ⟨hlen, .inr ⟨g, cap, nc, rfl, hbg, setRow_at hg, hroom, hcm, ?_, ?_⟩⟩, ⟨rfl, rfl, rfl, by simp [World.setRow], fun k _ hk => setRow_other w g k _ (fun e => hk (by simp [Value.ownBlock, e]))⟩, Or.inl rfl⟩
      rotate_left
      · rw [hnc']
        simp only [List.size_toArray, List.length_append, List.length_take, List.length_drop, hlcur]
        omega
      · rw [hnc']
        simp only [List.append_assoc]
        rw [← hlen, htake, ← List.append_assoc]
        exact List.take_left
      · by_cases hm : m = 0
        · have hnl := hnil hm
          subst hm
          rw [hnl] at hst
          have hw1 : w.setRow g nc = w := by
            have h7 : (storeCells ⟨g, n * i.size, none⟩ [] 0).run P w = .ok () w := rfl
            rw [h7] at hst
            injection hst with _ h8
            exact h8.symm
          rw [hw1]
          simp [Builtin.append_, run_underlying ht, run_underlying hti, sizeOf, typeInfo, hi, asInt, asIntOf, hw0, hnc, add_row, storeCells]
        · have hmz : ¬ (m * i.size = 0) := Nat.mul_ne_zero hm hsn
          simp [Builtin.append_, run_underlying ht, run_underlying hti, sizeOf, typeInfo, zeroValue, hi, hz, asInt, asIntOf, hw, hneg, hbig, hroom, hmz, hna, add_row, hst]
    · have holds : ∀ j u, xs[j]? = some u → w.cell? ((⟨g, 0, none⟩ : Addr).add j) = some u := hown.cells (g := g) rfl
      have hgr := grown cap (by omega) (Value.ownBlock (.slice (some ⟨g, 0, none⟩) n cap))
      exact ⟨_, _, runs (some ⟨g, 0, none⟩) cap (by omega) (run_firstCells_some (P := P) w.drew i.size n _ n cap xs hown.1 (by simpa using holds)), hgr.1, hgr.2, Or.inr rfl⟩
theorem own_grown {w w' : World} {L S : Hp} {T : TypeId} {size : Nat} {a : Option Addr} {m cap k : Nat} {cs cs' : List Value} {v' : Value} (hS : OwnSl T size a m cap cs S) (hO : Own w (S ++ L))
    (h2 : w'.ownsRow 0 T size v' k cs') (h3 : w.grownBy w' (Value.slice a m cap).ownBlock) (h5 : v'.ownBlock = (Value.slice a m cap).ownBlock ∨ v'.ownBlock = some w.heap.size) :
    ∃ a' cap' S', v' = .slice a' k cap' ∧ OwnSl T size a' k cap' cs' S' ∧ Own w' (S' ++ L) ∧ Ext w (S ++ L) w' (S' ++ L) := by
  obtain ⟨a', cap', S', rfl, hS', hat, hks⟩ := OwnSl.of_row h2
  have hnd := hO.nodup
  simp only [GV.ks, List.map_append] at hnd
  have hnd' := List.nodup_append.1 hnd
  have hkS : S.map Prod.fst = (Value.slice a m cap).ownBlock.toList := hS.ks
  have hoth : ∀ p, p ∈ L → some p.1 ≠ (Value.slice a m cap).ownBlock := by
    intro p hp e
    refine hnd'.2.2 p.1 ?_ p.1 (List.mem_map.2 ⟨p, hp, rfl⟩) rfl
    rw [hkS, ← e]
    simp
  refine ⟨a', cap', S', rfl, hS', ⟨?_, ?_⟩, ⟨h3.os, h3.tape, h3.output, h3.size, ?_, ?_⟩⟩
  · simp only [GV.ks, List.map_append]
    refine List.nodup_append.2 ⟨?_, hnd'.2.1, ?_⟩
    · have : S'.map Prod.fst = (Value.slice a' (k) cap').ownBlock.toList := hks
      rw [this]
      cases (Value.slice a' (k) cap').ownBlock <;> simp
    · intro b hb1 b' hb2 e
      subst e
      have hb1' : b ∈ (Value.slice a' (k) cap').ownBlock.toList := by rw [← hks]; exact hb1
      obtain ⟨p, hp, rfl⟩ := List.mem_map.1 hb2
      have hpl := hO.r.lt (b := p.1) (List.mem_map.2 ⟨p, hp, rfl⟩)
      rcases h5 with h5 | h5
      · rw [h5] at hb1'
        have : some p.1 = (Value.slice a m cap).ownBlock := by
          cases hh : (Value.slice a m cap).ownBlock with
          | none => rw [hh] at hb1'; simp at hb1'
          | some q => rw [hh] at hb1'; simp at hb1'; rw [hb1']
        exact hoth p hp this
      · rw [h5] at hb1'
        simp at hb1'
        omega
  · intro p hp
    rcases List.mem_append.1 hp with hp | hp
    · exact hat p hp
    · exact (h3.block p.1 (hO.r.lt (List.mem_map.2 ⟨p, hp, rfl⟩)) (hoth p hp)).trans (hO.at_ p (by simp [hp]))
  · intro b hb1 hb2
    refine h3.block b hb1 ?_
    intro e
    apply hb2
    simp only [GV.ks, List.map_append, List.mem_append]
    left
    rw [hkS, ← e]
    simp
  · intro b hb1
    simp only [GV.ks, List.map_append, List.mem_append] at hb1 ⊢
    rcases hb1 with hb1 | hb1
    · have hb1' : b ∈ (Value.slice a' (k) cap').ownBlock.toList := by rw [← hks]; exact hb1
      rcases h5 with h5 | h5
      · left; left
        rw [h5] at hb1'
        rw [hkS]; exact hb1'
      · right
        rw [h5] at hb1'
        simp at hb1'
        omega
    · exact .inl (.inr hb1)

theorem zeroCells_len (z : Value) (m : Nat) : (Builtin.zeroCells z.cells m).toList.length = m * z.cells.size := by rw [Array.length_toList, size_zeroCells]
theorem zeroCells_one {z : Value} (hz : z.cells = #[z]) (m : Nat) : (Builtin.zeroCells z.cells m).toList = List.replicate m z := by
  apply List.ext_getElem?
  intro i
  simp only [Builtin.zeroCells, hz]
  by_cases h : i < m
  · simp [h, Nat.mod_one]
  · simp [h]
end
section
variable {P : Program} {ops : Array Oper} {Q : Exit → Act → World → Prop} {rest : List Oper} {n : Nat} {f : Fr} {w : World} {L : Hp}
variable {d : Tmp} {ty t t' : TypeId} {pos : String} {af : Array Edge} {x y z : Operand}
theorem s_appendZ {T ti : TypeId} {ki kx : IntKind} {size bytes : Nat} {zv : Value} {a : Option Addr} {m cap k : Nat} {cs : List Value} {S : Hp} (ht : P.underlying t = some (.slice T)) (hti : P.underlying ti = some (.int ki)) (hI : TI P T zv size bytes) (hzs : zv.cells.size = size) (hsz : 0 < size) (hby : 0 < bytes)
    (hx : ev n f x = .slice a m cap) (hy : ev n f y = .int kx (k : Int))
    (hS : OwnSl T size a m cap cs S) (hO : Own w (S ++ L)) (h1 : ∀ u ∈ (Builtin.zeroCells zv.cells k).toList, u.oneCell' = true) {mk : Nat} (hmk : m + k = mk) (hb : mk * bytes ≤ 140737488355328)
    (K : ∀ a' cap' S' w', OwnSl T size a' mk cap' (cs ++ (Builtin.zeroCells zv.cells k).toList) S' → Own w' (S' ++ L) → Ext w (S ++ L) w' (S' ++ L) → wpList P ops Q rest (act n (upd f d (.slice a' mk cap'))) w') :
    wpList P ops Q (⟨some d, .call { callee := .builtin .append, args := #[x, y], argTypes := #[t, ti] }, ty, pos, af, none⟩ :: rest) (act n f) w := by
  subst hmk
  obtain ⟨i, hi, hz, hs, hbb⟩ := hI.get
  obtain ⟨v', w', hr, h2, h3, h5⟩ := run_append_zeros (P := P) w 0 t ti ty T i zv size bytes ht hti hi hz hs hbb hzs hsz hby (.slice a m cap) m cs (hS.row hO) kx k h1 hb (Nat.zero_le _)
  obtain ⟨a', cap', S', rfl, hS', hO', he'⟩ := own_grown hS hO h2 h3 h5
  exact s_val rfl (by simp [execOp, resolve, invoke, builtin, hx, hy, hr]) (K a' cap' S' w' hS' hO' he')
end
end Go.GV
