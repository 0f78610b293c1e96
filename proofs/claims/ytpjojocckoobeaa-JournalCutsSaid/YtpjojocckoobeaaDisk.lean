/- A part of the proof that the row of the law holds of the program as translated: lemmas and contracts of its functions. -/
import Derived.Test.YtpjojocckoobeaaProg
import Derived.Test.YtpjojocckoobeaaT1
import Derived.Test.YtpjojocckoobeaaRecord
import Derived.Test.YtpjojocckoobeaaInts
set_option linter.unusedVariables false
set_option linter.unusedSimpArgs false
set_option maxRecDepth 10000
namespace Go.Proofs.Ytpjojocckoobeaa
open Go.GV Go.RowKit
attribute [local irreducible] wpList
theorem I23 : TI Try.prog 23 (.slice none 0 0) 1 24 := by unfold TI; kernel_rfl
theorem I77 : TI Try.prog 77 (.slice none 0 0) 1 24 := by unfold TI; kernel_rfl
theorem I79 : TI Try.prog 79 (.agg #[(.slice none 0 0), (.slice none 0 0), (.slice none 0 0), (.bool false), (.int .i64 0)]) 5 88 := by unfold TI; kernel_rfl
theorem I88 : TI Try.prog 88 (.agg #[(.int .i64 0), (.slice none 0 0)]) 2 32 := by unfold TI; kernel_rfl
theorem pl79 : PL Try.prog 79 #[(0, 1), (1, 1), (2, 1), (3, 1), (4, 1)] := ⟨_, Try.underlying79, fun w => by kernel_rfl⟩
theorem pl88 : PL Try.prog 88 #[(0, 1), (1, 1)] := ⟨_, Try.underlying88, fun w => by kernel_rfl⟩
theorem cf30 : ∀ (args : Array Value) (w : World), (callFunc 30 args).run Try.prog w = .ok (.enter 30 args) w := cf_of Try.func30 (by kernel_rfl) rfl
theorem cf50 : ∀ (args : Array Value) (w : World), (callFunc 50 args).run Try.prog w = .ok (.enter 50 args) w := cf_of Try.func50 (by kernel_rfl) rfl
theorem cf63 : ∀ (args : Array Value) (w : World), (callFunc 63 args).run Try.prog w = .ok (.enter 63 args) w := cf_of Try.func63 (by kernel_rfl) rfl
theorem cf72 : ∀ (args : Array Value) (w : World), (callFunc 72 args).run Try.prog w = .ok (.enter 72 args) w := cf_of Try.func72 (by kernel_rfl) rfl
theorem cf73 : ∀ (args : Array Value) (w : World), (callFunc 73 args).run Try.prog w = .ok (.enter 73 args) w := cf_of Try.func73 (by kernel_rfl) rfl


/-! the disk -/
structure DS where
  bl : List (List UInt8)
  wt : List (Nat × List UInt8)
  bad : List Int
  down : Bool
  left : Int
def DS.has (d : DS) (n : Int) : Prop := 0 ≤ n ∧ n < d.bl.length
instance (d : DS) (n : Int) : Decidable (d.has n) := by unfold DS.has; infer_instance
def lastW (wt : List (Nat × List UInt8)) (n : Nat) : Option (List UInt8) := (wt.reverse.find? (fun x => x.1 == n)).map (·.2)
def DS.look (d : DS) (n : Nat) : List UInt8 := (lastW d.wt n).getD (d.bl.getD n [])
def DS.rdE (d : DS) (n : Int) : Nat := if d.down then 19 else if d.has n then 0 else 1
def DS.rdB (d : DS) (n : Int) : List UInt8 := if d.down then [] else if d.has n then d.look n.toNat else []
def lessL (l : Int) : Int := if l > 0 then l - 1 else l
def DS.gone (d : DS) : DS := ⟨d.bl, d.wt, d.bad, true, d.left⟩
def DS.write (d : DS) (n : Int) (bs : List UInt8) : DS × Nat :=
  if d.down then (d, 19) else if ¬ (d.has n ∧ bs.length = 256) then (d, 1) else if n ∈ d.bad then (d, 17) else
  if d.left = 0 then (d.gone, 19) else (⟨d.bl, d.wt ++ [(n.toNat, bs)], d.bad, d.down, lessL d.left⟩, 0)
def laid (bl : List (List UInt8)) (wt : List (Nat × List UInt8)) : List (List UInt8) := wt.foldl (fun bl x => bl.set x.1 x.2) bl
def DS.sync (d : DS) : DS × Nat :=
  if d.down then (d, 19) else if d.left = 0 then (d.gone, 19) else (⟨laid d.bl d.wt, [], d.bad, d.down, lessL d.left⟩, 0)
def DS.cut (d : DS) (n : Int) : DS := ⟨d.bl, d.wt, d.bad, d.down, max n 0⟩
def partly (bl : List (List UInt8)) (x : Nat × List UInt8) (pk : Int) : List (List UInt8) := bl.set x.1 (x.2.take (min (max pk 0) 256).toNat ++ (bl.getD x.1 []).drop (min (max pk 0) 256).toNat)
def crashed (bl : List (List UInt8)) : List (Nat × List UInt8) → List Int → List (List UInt8)
  | [], _ => bl
  | _ :: _, [] => bl
  | x :: wt, pk :: pks => crashed (partly bl x pk) wt pks
def DS.crash (d : DS) (picks : List Int) : DS := ⟨crashed d.bl d.wt picks, [], d.bad, false, -1⟩
structure DOk (d : DS) : Prop where
  len : ∀ b ∈ d.bl, b.length = 256
  most : d.bl.length ≤ 256
  wts : ∀ x ∈ d.wt, x.1 < d.bl.length ∧ x.2.length = 256
  wtm : d.wt.length ≤ 1000000
  badm : d.bad.length ≤ 1000000
  l0 : -1 ≤ d.left
  l1 : d.left ≤ 9223372036854775807
def slv (g : Nat) : Value := .slice (some ⟨g, 0, none⟩) 256 256
def eW (x : Nat × Value) : List Value := [.int .i64 (x.1 : Int), x.2]
theorem eW_len (x : Nat × Value) : (eW x).length = 2 := rfl
def bkH (gs : List Nat) (bl : List (List UInt8)) : Hp := List.zipWith (fun g bs => (g, Obj.cells (fl eB bs).toArray 5 (0, 0))) gs bl
def DiskAt (w : World) (L : Hp) (p : Nat) (d : DS) (gs : List Nat) (F : Hp) : Prop :=
  ∃ ab cb aw cw ax cx vw Sw, L = (p, .cells #[.slice ab d.bl.length cb, .slice aw d.wt.length cw, .slice ax d.bad.length cx, .bool d.down, .int .i64 d.left] 79 (0, 0)) :: (Sw ++ (bkH gs d.bl ++ F)) ∧
    DOk d ∧ gs.length = d.bl.length ∧ Rd w L ab (fl eS (gs.map slv)) ∧ OwnSl 88 2 aw d.wt.length cw (fl eW ((d.wt.map (·.1)).zip vw)) Sw ∧ RdAll w L vw (d.wt.map (·.2)) ∧ Rd w L ax (fl eI d.bad)
theorem DiskAt.ext {w w' : World} {L : Hp} {p : Nat} {d : DS} {gs : List Nat} {F : Hp} (h : DiskAt w L p d gs F) (e : Ext w L w' L) : DiskAt w' L p d gs F := by
  obtain ⟨ab, cb, aw, cw, ax, cx, vw, Sw, h1, h2, h3, h4, h5, h6, h7⟩ := h
  exact ⟨ab, cb, aw, cw, ax, cx, vw, Sw, h1, h2, h3, h4.ext e, h5, h6.ext e, h7.ext e⟩
theorem DOk.left {bl : List (List UInt8)} {wt : List (Nat × List UInt8)} {bad : List Int} {down down' : Bool} {left left' : Int} (h : DOk ⟨bl, wt, bad, down, left⟩) (h0 : -1 ≤ left') (h1 : left' ≤ 9223372036854775807) : DOk ⟨bl, wt, bad, down', left'⟩ :=
  ⟨h.len, h.most, h.wts, h.wtm, h.badm, h0, h1⟩
theorem lessL_ok {l : Int} (h0 : -1 ≤ l) (h1 : l ≤ 9223372036854775807) : -1 ≤ lessL l ∧ lessL l ≤ 9223372036854775807 := by unfold lessL; split <;> omega
theorem DOk.write {bl : List (List UInt8)} {wt : List (Nat × List UInt8)} {bad : List Int} {down : Bool} {left : Int} {nn : Nat} {bs : List UInt8} (h : DOk ⟨bl, wt, bad, down, left⟩) (hn : nn < bl.length) (hb : bs.length = 256) (hw : wt.length < 1000000) : DOk ⟨bl, wt ++ [(nn, bs)], bad, down, lessL left⟩ := by
  have h2 := lessL_ok h.l0 h.l1
  refine ⟨h.len, h.most, fun x hx => ?_, ?_, h.badm, h2.1, h2.2⟩
  · rcases List.mem_append.1 hx with hx | hx
    · exact h.wts x hx
    · rw [List.mem_singleton] at hx
      subst hx
      exact ⟨hn, hb⟩
  · show (wt ++ [(nn, bs)]).length ≤ 1000000
    rw [List.length_append]
    exact hw
theorem zip_snoc {wt : List (Nat × List UInt8)} {vw : List Value} {nn : Nat} {bs : List UInt8} {v : Value} (h : vw.length = wt.length) : fl eW ((wt.map (·.1)).zip vw) ++ fl eW [(nn, v)] = fl eW (((wt ++ [(nn, bs)]).map (·.1)).zip (vw ++ [v])) := by
  rw [← fl_app, List.map_append, List.zip_append (by simp [h])]
  rfl
theorem laid_len : ∀ (bl : List (List UInt8)) (wt : List (Nat × List UInt8)), (laid bl wt).length = bl.length
  | _, [] => rfl
  | bl, x :: wt => by
    have := laid_len (bl.set x.1 x.2) wt
    rw [List.length_set] at this
    exact this
theorem laid_all : ∀ {wt : List (Nat × List UInt8)} {bl : List (List UInt8)}, (∀ b ∈ bl, b.length = 256) → (∀ y ∈ wt, y.2.length = 256) → ∀ b ∈ laid bl wt, b.length = 256
  | [], _, h, _ => h
  | x :: wt, bl, h, hw => laid_all (wt := wt) (fun b hb => by
      rcases List.mem_or_eq_of_mem_set hb with h1 | h1
      · exact h b h1
      · rw [h1]; exact hw x (by simp)) (fun y hy => hw y (by simp [hy]))
theorem laid_take {bl : List (List UInt8)} {wt : List (Nat × List UInt8)} {k : Nat} {x : Nat × List UInt8} (h : wt[k]? = some x) : laid bl (wt.take (k + 1)) = (laid bl (wt.take k)).set x.1 x.2 := by
  unfold laid
  rw [List.take_add_one, h, List.foldl_append]
  rfl
theorem DOk.sync {bl : List (List UInt8)} {wt : List (Nat × List UInt8)} {bad : List Int} {down : Bool} {left : Int} (h : DOk ⟨bl, wt, bad, down, left⟩) : DOk ⟨laid bl wt, [], bad, down, lessL left⟩ := by
  have h2 := lessL_ok h.l0 h.l1
  exact ⟨laid_all h.len (fun y hy => (h.wts y hy).2), by rw [show (DS.mk (laid bl wt) [] bad down (lessL left)).bl = laid bl wt from rfl, laid_len]; exact h.most, fun x hx => (by simp at hx), by simp, h.badm, h2.1, h2.2⟩
/-! of a crash -/
def pkN (pk : Int) : Nat := (min (max pk 0) 256).toNat
theorem partly_len (bl : List (List UInt8)) (x : Nat × List UInt8) (pk : Int) : (partly bl x pk).length = bl.length := by simp [partly]
theorem partly_all {bl : List (List UInt8)} {x : Nat × List UInt8} {pk : Int} (h : ∀ b ∈ bl, b.length = 256) (hx : x.2.length = 256) (hn : x.1 < bl.length) : ∀ b ∈ partly bl x pk, b.length = 256 := by
  intro b hb
  rcases List.mem_or_eq_of_mem_set hb with h1 | h1
  · exact h b h1
  · rw [h1]
    have h2 : (bl.getD x.1 []).length = 256 := by
      rw [List.getD_eq_getElem?_getD, List.getElem?_eq_getElem hn]
      exact h _ (List.getElem_mem hn)
    rw [List.length_append, List.length_take, List.length_drop, hx, h2]
    omega
theorem crashed_len : ∀ (wt : List (Nat × List UInt8)) (pks : List Int) (bl : List (List UInt8)), (crashed bl wt pks).length = bl.length
  | [], _, _ => rfl
  | _ :: _, [], _ => rfl
  | x :: wt, pk :: pks, bl => by
    rw [crashed, crashed_len wt pks, partly_len]
theorem crashed_all : ∀ {wt : List (Nat × List UInt8)} {pks : List Int} {bl : List (List UInt8)}, (∀ b ∈ bl, b.length = 256) → (∀ y ∈ wt, y.1 < bl.length ∧ y.2.length = 256) → ∀ b ∈ crashed bl wt pks, b.length = 256
  | [], _, _, h, _ => h
  | _ :: _, [], _, h, _ => h
  | x :: wt, pk :: pks, bl, h, hw => crashed_all (wt := wt) (pks := pks) (partly_all h (hw x (by simp)).2 (hw x (by simp)).1) (fun y hy => by rw [partly_len]; exact hw y (by simp [hy]))
theorem crashed_take : ∀ {wt : List (Nat × List UInt8)} {pks : List Int} {bl : List (List UInt8)} {k : Nat} {x : Nat × List UInt8} {pk : Int}, wt[k]? = some x → pks[k]? = some pk → crashed bl (wt.take (k + 1)) pks = partly (crashed bl (wt.take k) pks) x pk
  | [], _, _, _, _, _, h, _ => by simp at h
  | _ :: _, [], _, _, _, _, _, h => by simp at h
  | y :: wt, q :: pks, bl, 0, x, pk, h, h' => by
    simp at h h'
    subst h; subst h'
    simp [crashed]
  | y :: wt, q :: pks, bl, k + 1, x, pk, h, h' => by
    simp at h h'
    simp only [List.take_succ_cons, crashed]
    exact crashed_take h h'
theorem crashed_none : ∀ {wt : List (Nat × List UInt8)} {pks : List Int} {bl : List (List UInt8)} {k : Nat}, pks.length ≤ k → crashed bl (wt.take (k + 1)) pks = crashed bl (wt.take k) pks
  | [], _, _, _, _ => by simp
  | _ :: _, [], _, 0, _ => rfl
  | _ :: _, [], _, _ + 1, _ => rfl
  | y :: wt, q :: pks, bl, 0, h => by simp at h
  | y :: wt, q :: pks, bl, k + 1, h => by
    simp only [List.take_succ_cons, crashed]
    exact crashed_none (by simpa using h)
theorem DOk.crash {bl : List (List UInt8)} {wt : List (Nat × List UInt8)} {bad : List Int} {down : Bool} {left : Int} {pks : List Int} (h : DOk ⟨bl, wt, bad, down, left⟩) : DOk ⟨crashed bl wt pks, [], bad, false, -1⟩ :=
  ⟨crashed_all h.len h.wts, by rw [show (DS.mk (crashed bl wt pks) [] bad false (-1)).bl = crashed bl wt pks from rfl, crashed_len]; exact h.most, fun x hx => (by simp at hx), by simp, h.badm, Int.le_refl (-1), (by show (-1 : Int) ≤ 9223372036854775807; decide)⟩
def zeros256 : List UInt8 := List.replicate 256 0
theorem bk_snoc : ∀ {gs : List Nat} {bl : List (List UInt8)} (g : Nat) (b : List UInt8), gs.length = bl.length → (bkH (gs ++ [g]) (bl ++ [b])).Perm ((g, .cells (fl eB b).toArray 5 (0, 0)) :: bkH gs bl)
  | [], [], _, _, _ => List.Perm.refl _
  | [], _ :: _, _, _, h => by simp at h
  | _ :: _, [], _, _, h => by simp at h
  | g0 :: gs, b0 :: bl, g, b, h => ((bk_snoc g b (by simpa using h)).cons _).trans (List.Perm.swap _ _ _)
theorem DiskAt.ok {w : World} {L : Hp} {p : Nat} {d : DS} {gs : List Nat} {F : Hp} (h : DiskAt w L p d gs F) : DOk d := by
  obtain ⟨ab, cb, aw, cw, ax, cx, vw, Sw, h1, h2, h3⟩ := h
  exact h2
theorem DiskAt.most {w : World} {L : Hp} {p : Nat} {d : DS} {gs : List Nat} {F : Hp} (h : DiskAt w L p d gs F) : d.bl.length ≤ 256 := h.ok.most
theorem lastW_snoc (wt : List (Nat × List UInt8)) (x : Nat × List UInt8) (n : Nat) : lastW (wt ++ [x]) n = if x.1 = n then some x.2 else lastW wt n := by
  unfold lastW
  rw [List.reverse_append, List.reverse_singleton, List.singleton_append, List.find?_cons]
  by_cases h : x.1 = n
  · simp [h]
  · rw [show (x.1 == n) = false by simpa using h]
    simp [h]
theorem lastW_take {wt : List (Nat × List UInt8)} {k n : Nat} {x : Nat × List UInt8} (hx : wt[k]? = some x) : lastW (wt.take (k + 1)) n = if x.1 = n then some x.2 else lastW (wt.take k) n := by
  rw [List.take_add_one, hx]
  exact lastW_snoc _ _ _
theorem bk_out {gs : List Nat} {bl : List (List UInt8)} {i g : Nat} {bs : List UInt8} (hg : gs[i]? = some g) (hb : bl[i]? = some bs) :
    ∃ R, (bkH gs bl).Perm ((g, .cells (fl eB bs).toArray 5 (0, 0)) :: R) ∧ ∀ bs', ((g, .cells (fl eB bs').toArray 5 (0, 0)) :: R : Hp).Perm (bkH gs (bl.set i bs')) := by
  induction gs generalizing i bl with
  | nil => simp at hg
  | cons g0 gs ih =>
    cases bl with
    | nil => simp at hb
    | cons b0 bl =>
      cases i with
      | zero =>
        simp at hg hb
        subst hg; subst hb
        exact ⟨bkH gs bl, List.Perm.refl _, fun bs' => List.Perm.refl _⟩
      | succ i =>
        simp at hg hb
        obtain ⟨R, h1, h2⟩ := ih hg hb
        exact ⟨(g0, .cells (fl eB b0).toArray 5 (0, 0)) :: R, (h1.cons _).trans (List.Perm.swap _ _ _), fun bs' => (List.Perm.swap _ _ _).trans ((h2 bs').cons _)⟩
theorem bk_rd {gs : List Nat} {bl : List (List UInt8)} {i g : Nat} {bs : List UInt8} {w : World} {L : Hp} (hg : gs[i]? = some g) (hb : bl[i]? = some bs) (hO : Own w (bkH gs bl ++ L)) : Rd w L (some ⟨g, 0, none⟩) (fl eB bs) := by
  obtain ⟨R, h1, _⟩ := bk_out hg hb
  have h0 := hO.perm (h1.append_right L)
  have h := h0.h
  refine .inr ⟨_, rfl, fun hm => ?_, fun j u hu => ?_⟩
  · have := h0.nodup
    simp only [ks, List.map_append, List.map_cons, List.cons_append, List.nodup_cons, List.mem_append, not_or] at this
    exact this.1.2 hm
  · rw [add_row, cell_row h]
    simpa using hu


theorem disk_Lies (p : Nat) (d : DS) (gs : List Nat) (F : Hp) (w : World) (L : Hp) (hD : DiskAt w L p d gs F) (hO : Own w L) (n : Int) : Calls Try.prog 50 #[.pointer (some ⟨p, 0, none⟩), .int .i64 n] w fun en w' => ∃ a c bs S, en = .returned (.slice a bs.length c) ∧ bs = (if d.has n then d.bl.getD n.toNat [] else []) ∧ OwnSl 5 1 a bs.length c (fl eB bs) S ∧ Own w' (S ++ L) ∧ Ext w L w' (S ++ L) := by
  obtain ⟨bl, wt, bad, down, left⟩ := d
  obtain ⟨ab, cb, aw, cw, ax, cx, vw, Sw, rfl, hok, hgs, hRb, hSw, hRw, hRx⟩ := hD
  dsimp only at hgs hSw hRw hRx hO hRb ⊢
  have hbl := hok.most
  have hwm := hok.wtm
  have hbm := hok.badm
  have hl0 := hok.l0
  have hl1 := hok.l1
  have hblen := hok.len
  have hwts := hok.wts
  dsimp only at hbl hwm hbm hl0 hl1 hblen hwts
  refine enter (n := 17) _ Try.func50 rfl Try.ntmps50 (by simp) ?_
  refine c_seq ?_
  refine c_reg ?_
  refine s_assign (v := .slice _ _ _) rfl ?_
  refine s_nil ?_
  refine c_next ?_
  refine c_seq ?_
  refine c_seq ?_
  refine c_reg ?_
  refine s_move (v := .pointer _) rfl ?_
  refine s_move (v := .int _ _) rfl ?_
  refine s_call cf63 rfl (disk_there _ _ _ _ _ _ _ _ _ _ _ hO) ?_
  rintro er7 w1 ⟨bt7, rfl, hbt7, hO1, e1⟩
  cases bt7 with
  | true =>
    have hn := hbt7.1 rfl
    obtain ⟨bs, hbs⟩ : ∃ bs, bl[n.toNat]? = some bs := ⟨bl[n.toNat]'(by omega), by simp⟩
    obtain ⟨g, hg⟩ : ∃ g, gs[n.toNat]? = some g := ⟨gs[n.toNat]'(by omega), by simp⟩
    have hb256 := hblen bs (List.mem_of_getElem? hbs)
    refine ⟨_, rfl, ?_⟩
    refine s_not rfl ?_
    refine s_nil ?_
    refine c_next ?_
    refine c_condF rfl ?_
    refine c_skip ?_
    refine c_next ?_
    refine c_seq ?_
    refine c_reg ?_
    refine s_move (v := .pointer _) rfl ?_
    refine s_nilCheck rfl ?_
    refine s_fieldAddr Try.underlying79 rfl I22 (by decide) rfl ?_
    refine s_load1 Try.underlying22 rfl rfl (cellB (hO1.get (i := 0) rfl) rfl rfl) ?_
    refine s_move (v := .int _ _) rfl ?_
    refine s_idxE Try.underlying22 I33 rfl rfl (by omega) (by omega) (Rd.cs (hRb.ext e1)) eS_len (by decide) (show (gs.map slv)[n.toNat]? = some (slv g) by simp [hg]) ?_
    intro p14 hp14
    refine s_load1 Try.underlying33 rfl rfl (cellP hp14 0 rfl) ?_
    obtain ⟨hO3, e3⟩ := hO1.permE (pmC (pmA pm0))
    obtain ⟨hO4, e4⟩ := hO3.dropS
    refine s_call cf64 rfl (cloneB (some ⟨g, 0, none⟩) 256 bs 256 hb256 _ _ (bk_rd hg hbs hO3) (by omega) hO4) ?_
    rintro er16 w2 ⟨a', c', S', rfl, hS', hO2, e2⟩
    obtain ⟨hO2l0, e2l0⟩ := Own.lend hO3 hO2 e2
    refine ⟨_, rfl, ?_⟩
    refine s_assign (v := .slice _ _ _) rfl ?_
    refine s_nil ?_
    refine c_next ?_
    refine c_ret ?_
    refine e_1 (v := .slice _ _ _) Try.results50 rfl ?_
    obtain ⟨hO5, e5⟩ := hO2l0.permE (pmA (pmA (pmC pm0)))
    obtain ⟨hO6, e6⟩ := hO5.permE (pmbA (pmbA (pmbA pmb0)))
    obtain ⟨hO7, e7⟩ := hO6.permE (pmC (pmA (pmA pm0)))
    exact ⟨_, _, bs, S', by rw [hb256], (Eq.trans (if_pos hn) (by simp [hbs])).symm, by rw [hb256]; exact hS', hO7, (e1.trans (e3.trans (e2l0.trans (e5.trans (e6.trans e7)))))⟩
  | false =>
    have hn : ¬ (0 ≤ n ∧ n < bl.length) := fun h => by simpa using hbt7.2 h
    refine ⟨_, rfl, ?_⟩
    refine s_not rfl ?_
    refine s_nil ?_
    refine c_next ?_
    refine c_condT rfl ?_
    refine c_seq ?_
    refine c_reg ?_
    refine s_assign (v := .slice _ _ _) rfl ?_
    refine s_nil ?_
    refine c_next ?_
    refine c_ret ?_
    refine r_then ?_
    refine e_1 (v := .slice _ _ _) Try.results50 rfl ?_
    exact ⟨none, 0, [], [], rfl, (if_neg hn).symm, OwnSl.nil _ _, hO1, e1⟩

theorem disk_Read (p : Nat) (d : DS) (gs : List Nat) (F : Hp) (w : World) (L : Hp) (hD : DiskAt w L p d gs F) (hO : Own w L) (n : Int) : Calls Try.prog 33 #[.pointer (some ⟨p, 0, none⟩), .int .i64 n] w fun en w' => ∃ a c m S, en = .returned (.tuple #[.slice a m c, .int .i64 (d.rdE n : Int)]) ∧ (d.rdB n).length = m ∧ OwnSl 5 1 a m c (fl eB (d.rdB n)) S ∧ Own w' (S ++ L) ∧ Ext w L w' (S ++ L) := by
  obtain ⟨bl, wt, bad, down, left⟩ := d
  obtain ⟨ab, cb, aw, cw, ax, cx, vw, Sw, rfl, hok, hgs, hRb, hSw, hRw, hRx⟩ := hD
  dsimp only at hgs hSw hRw hRx hO hRb ⊢
  have hbl := hok.most
  have hwm := hok.wtm
  have hbm := hok.badm
  have hl0 := hok.l0
  have hl1 := hok.l1
  have hblen := hok.len
  have hwts := hok.wts
  dsimp only at hbl hwm hbm hl0 hl1 hblen hwts
  refine enter (n := 49) _ Try.func33 rfl Try.ntmps33 (by simp) ?_
  refine c_seq ?_
  refine c_reg ?_
  refine s_assign (v := .slice _ _ _) rfl ?_
  refine s_assign (v := .int _ _) rfl ?_
  refine s_nil ?_
  refine c_next ?_
  refine c_seq ?_
  refine c_block ?_
  refine c_seq ?_
  refine c_reg ?_
  refine s_move (v := .pointer _) rfl ?_
  refine s_nilCheck rfl ?_
  refine s_fieldAddr Try.underlying79 rfl I4 (by decide) rfl ?_
  cases down with
  | true =>
    refine s_load1 Try.underlying4 rfl rfl (cellB (hO.get (i := 0) rfl) rfl rfl) ?_
    refine s_assign (v := .bool _) rfl ?_
    refine s_nil ?_
    refine c_next ?_
    refine c_condT rfl ?_
    refine c_seq ?_
    refine c_reg ?_
    refine s_assign (v := .slice _ _ _) rfl ?_
    refine s_assign (v := .int _ _) rfl ?_
    refine s_nil ?_
    refine c_next ?_
    refine c_ret ?_
    refine r_block ?_
    refine r_then ?_
    refine e_2 (v := .slice _ _ _) (v' := .int _ _) Try.results33 rfl rfl ?_
    exact ⟨none, 0, 0, [], rfl, rfl, OwnSl.nil _ _, hO, (Ext.refl _ _)⟩
  | false =>
    refine s_load1 Try.underlying4 rfl rfl (cellB (hO.get (i := 0) rfl) rfl rfl) ?_
    refine s_assign (v := .bool _) rfl ?_
    refine s_nil ?_
    refine c_next ?_
    refine c_condF rfl ?_
    refine c_seq ?_
    refine c_reg ?_
    refine s_move (v := .pointer _) rfl ?_
    refine s_move (v := .int _ _) rfl ?_
    refine s_call cf63 rfl (disk_there _ _ _ _ _ _ _ _ _ _ _ hO) ?_
    rintro er15 w1 ⟨bt15, rfl, hbt15, hO1, e1⟩
    cases bt15 with
    | true =>
      have hn := hbt15.1 rfl
      refine ⟨_, rfl, ?_⟩
      refine s_not rfl ?_
      refine s_assign (v := .bool _) rfl ?_
      refine s_nil ?_
      refine c_next ?_
      refine c_condF rfl ?_
      refine c_skip ?_
      refine x_norm ?_
      refine c_next ?_
      refine c_seq ?_
      refine c_seq ?_
      refine c_reg ?_
      refine s_move (v := .pointer _) rfl ?_
      refine s_nilCheck rfl ?_
      refine s_fieldAddr Try.underlying79 rfl I77 (by decide) rfl ?_
      refine s_load1 Try.underlying77 rfl rfl (cellB (hO1.get (i := 0) rfl) rfl rfl) ?_
      refine s_len Try.underlying77 rfl ?_
      refine s_sub rfl rfl (by omega) (by omega) ?_
      refine s_assign (v := .int _ _) rfl ?_
      refine s_nil ?_
      refine c_next ?_
      refine c_block ?_
      have hRb := (hRb.ext e1)
      have hRw := (hRw.ext e1)
      have hRx := (hRx.ext e1)
      refine c_loopL hO1 (fun Lc f0 m g wl => ∃ (k : Nat), (m = k) ∧ (g 6 = .int .i64 ((k : Int) - 1)) ∧ (g 0 = f0 0) ∧ (g 1 = f0 1) ∧ (k ≤ wt.length) ∧ (lastW wt n.toNat = lastW (wt.take k) n.toNat) ∧ (Own wl (Lc)) ∧ (Ext w1 Lc wl (Lc))) (wt.length) ?_ ?_
      · refine ⟨wt.length, rfl, (by first | rfl | (simp; done)), rfl, rfl, by omega, by rw [List.take_length], hO1, (Ext.refl _ _)⟩
      intro m2 g2 w2 hI2
      obtain ⟨k, hm2, hs2_6, hs2_0, hs2_1, hk, hi, hO2, e2⟩ := hI2
      obtain ⟨q2, rfl⟩ := fr3 hs2_6 hs2_0 hs2_1
      clear hs2_6 hs2_0 hs2_1
      refine c_seq ?_
      refine c_seq ?_
      refine c_reg ?_
      refine s_move (v := .int _ _) rfl ?_
      refine c_geq rfl rfl (fun h24 => ?_) (fun h24 => ?_)
      · skip
        obtain ⟨x, hxk⟩ : ∃ x, wt[k - 1]? = some x := ⟨wt[k - 1]'(by omega), by simp⟩
        have hx := hwts x (List.mem_of_getElem? hxk)
        obtain ⟨ak, ck, hvk, hRk, hck⟩ := RdAll.get (hRw.ext e2) (show (wt.map (·.2))[k - 1]? = some x.2 by simp [hxk])
        rw [hx.2] at hvk hck
        refine s_nil ?_
        refine c_next ?_
        refine c_condT rfl ?_
        refine c_skip ?_
        refine c_next ?_
        refine c_seq ?_
        refine c_block ?_
        refine c_seq ?_
        refine c_reg ?_
        refine s_move (v := .pointer _) rfl ?_
        refine s_nilCheck rfl ?_
        refine s_fieldAddr Try.underlying79 rfl I77 (by decide) rfl ?_
        refine s_load1 Try.underlying77 rfl rfl (cellB (hO2.get (i := 0) rfl) rfl rfl) ?_
        refine s_move (v := .int _ _) rfl ?_
        refine s_idxE Try.underlying77 I88 rfl rfl (by omega) (by omega) (hSw.cs (hO2.perm (pmC pm0))) eW_len (by decide) (show ((wt.map (·.1)).zip vw)[(((k : Int) - 1)).toNat]? = some (x.1, .slice ak 256 ck) by rw [show (((k : Int) - 1)).toNat = k - 1 by omega]; simp [List.getElem?_zip_eq_some, hxk, hvk]) ?_
        intro p32 hp32
        refine s_fieldAddr Try.underlying88 rfl I3 (by decide) rfl ?_
        refine s_load1 Try.underlying3 rfl rfl (cellP hp32 0 rfl) ?_
        refine s_move (v := .int _ _) rfl ?_
        refine c_eql rfl rfl (fun h36 => ?_) (fun h36 => ?_)
        · skip
          refine s_nil ?_
          refine c_next ?_
          refine c_condT rfl ?_
          refine c_seq ?_
          refine c_reg ?_
          refine s_move (v := .pointer _) rfl ?_
          refine s_nilCheck rfl ?_
          refine s_fieldAddr Try.underlying79 rfl I77 (by decide) rfl ?_
          refine s_load1 Try.underlying77 rfl rfl (cellB (hO2.get (i := 0) rfl) rfl rfl) ?_
          refine s_move (v := .int _ _) rfl ?_
          refine s_idxE Try.underlying77 I88 rfl rfl (by omega) (by omega) (hSw.cs (hO2.perm (pmC pm0))) eW_len (by decide) (show ((wt.map (·.1)).zip vw)[(((k : Int) - 1)).toNat]? = some (x.1, .slice ak 256 ck) by rw [show (((k : Int) - 1)).toNat = k - 1 by omega]; simp [List.getElem?_zip_eq_some, hxk, hvk]) ?_
          intro p42 hp42
          refine s_fieldAddr Try.underlying88 rfl I33 (by decide) rfl ?_
          refine s_load1 Try.underlying33 rfl rfl (cellP hp42 1 rfl) ?_
          refine s_call cf64 rfl (cloneB ak ck x.2 256 hx.2 _ _ hRk (by omega) hO2) ?_
          rintro er45 w3 ⟨a', c', S', rfl, hS', hO3, e3⟩
          refine ⟨_, rfl, ?_⟩
          refine s_assign (v := .slice _ _ _) rfl ?_
          refine s_assign (v := .int _ _) rfl ?_
          refine s_nil ?_
          refine c_next ?_
          refine c_ret ?_
          refine r_block ?_
          refine r_then ?_
          refine r_then ?_
          refine r_block ?_
          refine r_then ?_
          refine e_2 (v := .slice _ _ _) (v' := .int _ _) Try.results33 rfl rfl ?_
          have hW : lastW wt n.toNat = some x.2 := by rw [hi, show k = (k - 1) + 1 by omega, lastW_take hxk, if_pos (by omega)]
          have hB : DS.rdB ⟨bl, wt, bad, false, left⟩ n = x.2 := (if_neg Bool.false_ne_true).trans ((if_pos hn).trans (by simp [DS.look, hW]))
          rw [show DS.rdE ⟨bl, wt, bad, false, left⟩ n = 0 from (if_neg Bool.false_ne_true).trans (if_pos hn), hB]
          exact ⟨_, _, _, S', rfl, hx.2, hS', hO3, (e1.trans (e2.trans e3))⟩
        refine s_nil ?_
        refine c_next ?_
        refine c_condF rfl ?_
        refine c_skip ?_
        refine x_norm ?_
        refine c_next ?_
        refine c_reg ?_
        refine s_move (v := .int _ _) rfl ?_
        refine s_sub rfl rfl (by omega) (by omega) ?_
        refine s_assign (v := .int _ _) rfl ?_
        refine s_nil ?_
        refine l_end (m' := k - 1) (by omega) ?_
        refine ⟨k - 1, rfl, (show Value.int .i64 ((k : Int) - 1 - 1) = Value.int .i64 (((k - 1 : Nat) : Int) - 1) from congrArg (Value.int .i64) (by omega)), rfl, rfl, by omega, by rw [hi, show k = (k - 1) + 1 by omega, lastW_take hxk, if_neg (by omega)]; simp, hO2, e2⟩
      refine s_nil ?_
      refine c_next ?_
      refine c_condF rfl ?_
      refine c_exit ?_
      refine x_then ?_
      refine x_then ?_
      refine x_same ?_
      refine c_next ?_
      refine c_seq ?_
      refine c_reg ?_
      refine s_move (v := .pointer _) rfl ?_
      refine s_move (v := .int _ _) rfl ?_
      refine s_call cf50 rfl (disk_Lies p ⟨bl, wt, bad, false, left⟩ gs F _ _ ⟨ab, cb, aw, cw, ax, cx, vw, Sw, rfl, hok, hgs, (hRb.ext e2), hSw, (hRw.ext e2), (hRx.ext e2)⟩ hO2 n) ?_
      rintro er48 w4 ⟨a', c', bs, S', rfl, hbs, hS', hO4, e4⟩
      refine ⟨_, rfl, ?_⟩
      refine s_assign (v := .slice _ _ _) rfl ?_
      refine s_assign (v := .int _ _) rfl ?_
      refine s_nil ?_
      refine c_next ?_
      refine c_ret ?_
      refine e_2 (v := .slice _ _ _) (v' := .int _ _) Try.results33 rfl rfl ?_
      have hW : lastW wt n.toNat = none := by rw [hi, show k = 0 by omega]; rfl
      have hB : DS.rdB ⟨bl, wt, bad, false, left⟩ n = bs := (if_neg Bool.false_ne_true).trans ((if_pos hn).trans (by rw [hbs]; exact ((if_pos hn).trans (by simp [DS.look, hW])).symm))
      rw [show DS.rdE ⟨bl, wt, bad, false, left⟩ n = 0 from (if_neg Bool.false_ne_true).trans (if_pos hn), hB]
      exact ⟨_, _, _, S', rfl, rfl, hS', hO4, (e1.trans (e2.trans e4))⟩
    | false =>
      have hn : ¬ (_ ∧ _) := fun h => by simpa using hbt15.2 h
      refine ⟨_, rfl, ?_⟩
      refine s_not rfl ?_
      refine s_assign (v := .bool _) rfl ?_
      refine s_nil ?_
      refine c_next ?_
      refine c_condT rfl ?_
      refine c_seq ?_
      refine c_reg ?_
      refine s_assign (v := .slice _ _ _) rfl ?_
      refine s_assign (v := .int _ _) rfl ?_
      refine s_nil ?_
      refine c_next ?_
      refine c_ret ?_
      refine r_block ?_
      refine r_then ?_
      refine e_2 (v := .slice _ _ _) (v' := .int _ _) Try.results33 rfl rfl ?_
      rw [show DS.rdE ⟨bl, wt, bad, false, left⟩ n = 1 from (if_neg Bool.false_ne_true).trans (if_neg hn), show DS.rdB ⟨bl, wt, bad, false, left⟩ n = [] from (if_neg Bool.false_ne_true).trans (if_neg hn)]
      exact ⟨none, 0, 0, [], rfl, rfl, OwnSl.nil _ _, hO1, e1⟩

theorem disk_Write (p : Nat) (d : DS) (gs : List Nat) (F : Hp) (w : World) (L : Hp) (hD : DiskAt w L p d gs F) (hO : Own w L) (n : Int) (a : Option Addr) (c : Nat) (bs : List UInt8) (mb : Nat) (hbm : bs.length = mb) (hR : Rd w L a (fl eB bs)) (hbs : mb ≤ 1000000000000) (hwl : d.wt.length < 1000000) : Calls Try.prog 42 #[.pointer (some ⟨p, 0, none⟩), .int .i64 n, .slice a mb c] w fun en w' => ∃ L', en = .returned (.int .i64 ((d.write n bs).2 : Int)) ∧ DiskAt w' L' p (d.write n bs).1 gs F ∧ Own w' L' ∧ Ext w L w' L' := by
  subst hbm
  obtain ⟨bl, wt, bad, down, left⟩ := d
  obtain ⟨ab, cb, aw, cw, ax, cx, vw, Sw, rfl, hok, hgs, hRb, hSw, hRw, hRx⟩ := hD
  dsimp only at hgs hSw hRw hRx hO hRb ⊢
  have hbl := hok.most
  have hwm := hok.wtm
  have hbm := hok.badm
  have hl0 := hok.l0
  have hl1 := hok.l1
  have hblen := hok.len
  have hwts := hok.wts
  dsimp only at hbl hwm hbm hl0 hl1 hblen hwts
  refine enter (n := 46) _ Try.func42 rfl Try.ntmps42 (by simp) ?_
  refine c_seq ?_
  refine c_reg ?_
  refine s_assign (v := .int _ _) rfl ?_
  refine s_nil ?_
  refine c_next ?_
  refine c_seq ?_
  refine c_block ?_
  refine c_seq ?_
  refine c_reg ?_
  refine s_move (v := .pointer _) rfl ?_
  refine s_nilCheck rfl ?_
  refine s_fieldAddr Try.underlying79 rfl I4 (by decide) rfl ?_
  cases down with
  | true =>
    refine s_load1 Try.underlying4 rfl rfl (cellB (hO.get (i := 0) rfl) rfl rfl) ?_
    refine s_assign (v := .bool _) rfl ?_
    refine s_nil ?_
    refine c_next ?_
    refine c_condT rfl ?_
    refine c_seq ?_
    refine c_reg ?_
    refine s_assign (v := .int _ _) rfl ?_
    refine s_nil ?_
    refine c_next ?_
    refine c_ret ?_
    refine r_block ?_
    refine r_then ?_
    refine e_1 (v := .int _ _) Try.results42 rfl ?_
    rw [show DS.write ⟨bl, wt, bad, true, left⟩ _ bs = (_, 19) from if_pos rfl]
    exact ⟨_, rfl, ⟨ab, cb, aw, cw, ax, cx, vw, Sw, rfl, hok, hgs, hRb, hSw, hRw, hRx⟩, hO, (Ext.refl _ _)⟩
  | false =>
    refine s_load1 Try.underlying4 rfl rfl (cellB (hO.get (i := 0) rfl) rfl rfl) ?_
    refine s_assign (v := .bool _) rfl ?_
    refine s_nil ?_
    refine c_next ?_
    refine c_condF rfl ?_
    refine c_seq ?_
    refine c_reg ?_
    refine s_move (v := .pointer _) rfl ?_
    refine s_move (v := .int _ _) rfl ?_
    refine s_call cf63 rfl (disk_there _ _ _ _ _ _ _ _ _ _ _ hO) ?_
    rintro er15 w1 ⟨bt15, rfl, hbt15, hO1, e1⟩
    cases bt15 with
    | true =>
      have hn := hbt15.1 rfl
      refine ⟨_, rfl, ?_⟩
      refine s_not rfl ?_
      refine s_move (v := .bool _) rfl ?_
      refine g_do 17 (by rfl) (by rfl) ?_
      refine s_move (v := .slice _ _ _) rfl ?_
      refine g_do 17 (by rfl) (by rfl) ?_
      refine s_len Try.underlying33 rfl ?_
      refine g_do 17 (by rfl) (by rfl) ?_
      refine c_neq rfl rfl (fun h20 => ?_) (fun h20 => ?_)
      · skip
        refine s_pickF (v := .bool _) rfl rfl ?_
        refine s_assign (v := .bool _) rfl ?_
        refine s_nil ?_
        refine c_next ?_
        refine c_condT rfl ?_
        refine c_seq ?_
        refine c_reg ?_
        refine s_assign (v := .int _ _) rfl ?_
        refine s_nil ?_
        refine c_next ?_
        refine c_ret ?_
        refine r_block ?_
        refine r_then ?_
        refine e_1 (v := .int _ _) Try.results42 rfl ?_
        rw [show DS.write ⟨bl, wt, bad, false, left⟩ _ bs = (_, 1) from (if_neg Bool.false_ne_true).trans (if_pos (fun h => h20 (congrArg Int.ofNat h.2)))]
        exact ⟨_, rfl, ⟨ab, cb, aw, cw, ax, cx, vw, Sw, rfl, hok, hgs, (hRb.ext e1), hSw, (hRw.ext e1), (hRx.ext e1)⟩, hO1, e1⟩
      have hb256 : bs.length = 256 := by omega
      obtain ⟨nn, rfl⟩ : ∃ nn : Nat, n = (nn : Int) := ⟨n.toNat, by omega⟩
      refine s_pickF (v := .bool _) rfl rfl ?_
      refine s_assign (v := .bool _) rfl ?_
      refine s_nil ?_
      refine c_next ?_
      refine c_condF rfl ?_
      refine c_seq ?_
      refine c_reg ?_
      refine s_move (v := .pointer _) rfl ?_
      refine s_nilCheck rfl ?_
      refine s_fieldAddr Try.underlying79 rfl I23 (by decide) rfl ?_
      refine s_load1 Try.underlying23 rfl rfl (cellB (hO1.get (i := 0) rfl) rfl rfl) ?_
      refine s_move (v := .int _ _) rfl ?_
      refine s_call cf72 rfl (containsI ax cx bad _ (by omega) _ _ (hRx.ext e1) hO1) ?_
      rintro er28 w2 ⟨bc28, rfl, hbc28, hO2, e2⟩
      cases bc28 with
      | true =>
        have hbd := hbc28.1 rfl
        refine ⟨_, rfl, ?_⟩
        refine s_assign (v := .bool _) rfl ?_
        refine s_nil ?_
        refine c_next ?_
        refine c_condT rfl ?_
        refine c_seq ?_
        refine c_reg ?_
        refine s_assign (v := .int _ _) rfl ?_
        refine s_nil ?_
        refine c_next ?_
        refine c_ret ?_
        refine r_block ?_
        refine r_then ?_
        refine e_1 (v := .int _ _) Try.results42 rfl ?_
        rw [show DS.write ⟨bl, wt, bad, false, left⟩ _ bs = (_, 17) from (if_neg Bool.false_ne_true).trans ((if_neg (fun h => h ⟨hn, hb256⟩)).trans (if_pos hbd))]
        exact ⟨_, rfl, ⟨ab, cb, aw, cw, ax, cx, vw, Sw, rfl, hok, hgs, (hRb.ext (e1.trans e2)), hSw, (hRw.ext (e1.trans e2)), (hRx.ext (e1.trans e2))⟩, hO2, (e1.trans e2)⟩
      | false =>
        have hbd : ¬ (_ ∈ bad) := fun h => by simpa using hbc28.2 h
        refine ⟨_, rfl, ?_⟩
        refine s_assign (v := .bool _) rfl ?_
        refine s_nil ?_
        refine c_next ?_
        refine c_condF rfl ?_
        refine c_seq ?_
        refine c_reg ?_
        refine s_move (v := .pointer _) rfl ?_
        refine s_call cf73 rfl (disk_step _ _ _ _ _ _ _ _ _ _ (by omega) (by omega) hO2) ?_
        rintro er31 w3 ⟨bs31, dn31, lf31, rfl, hbs31, hdn31, hlf31, hO3, e3⟩
        cases bs31 with
        | true =>
          refine ⟨_, rfl, ?_⟩
          refine s_not rfl ?_
          refine s_assign (v := .bool _) rfl ?_
          refine s_nil ?_
          refine c_next ?_
          refine c_condF rfl ?_
          refine c_skip ?_
          refine x_norm ?_
          refine c_next ?_
          refine c_seq ?_
          refine d_startL hO3 ((hO3.perm (pmC pm0)).r.perm (pmC pm0)).r 11 (by kernel_rfl) (pk_then pk_body) ?_
          intro hP5 wd5 hK5 hO4 e4
          refine d_take (i := 0) (listed' := #[true, false, false, false, false, false, false, false, false, false, false, false, false, false]) (by rfl) (by kernel_rfl) (by rfl) hP5.t rfl hK5 (fun wS hS => r_move (v := .pointer _) rfl) ?_
          refine d_take (i := 1) (listed' := #[true, true, false, false, false, false, false, false, false, false, false, false, false, false]) (by rfl) (by kernel_rfl) (by rfl) hP5.t rfl hK5 (fun wS hS => r_move (v := .pointer _) rfl) ?_
          refine d_take (i := 2) (listed' := #[true, true, true, false, false, false, false, false, false, false, false, false, false, false]) (by rfl) (by kernel_rfl) (by rfl) hP5.t rfl hK5 (fun wS hS => r_nilCheck rfl) ?_
          refine d_take (i := 3) (listed' := #[true, true, true, true, false, false, false, false, false, false, false, false, false, false]) (by rfl) (by kernel_rfl) (by rfl) hP5.t rfl hK5 (fun wS hS => r_fieldAddr Try.underlying79 rfl I77 (by decide) rfl) ?_
          refine d_take (i := 4) (listed' := #[true, true, true, true, true, false, false, false, false, false, false, false, false, false]) (by rfl) (by kernel_rfl) (by rfl) hP5.t rfl hK5 (fun wS hS => r_load1 Try.underlying77 rfl rfl (cellB (hS.own.get (i := 0) rfl) rfl rfl)) ?_
          refine d_take (i := 5) (listed' := #[true, true, true, true, true, true, false, false, false, false, false, false, false, false]) (by rfl) (by kernel_rfl) (by rfl) hP5.t rfl hK5 (fun wS hS => r_move (v := .int _ _) rfl) ?_
          refine d_take (i := 6) (listed' := #[true, true, true, true, true, true, true, false, false, false, false, false, false, false]) (by rfl) (by kernel_rfl) (by rfl) hP5.t rfl hK5 (fun wS hS => r_move (v := .slice _ _ _) rfl) ?_
          refine d_one (i := 7) (listed' := #[true, true, true, true, true, true, true, true, false, false, false, false, false, false]) (by rfl) (by kernel_rfl) (by rfl) ?_
          refine s_call cf64 rfl (cloneB a c bs bs.length rfl _ _ (hR.ext (e1.trans (e2.trans (e3.trans e4)))) (by omega) hO4) ?_
          rintro er40 w6 ⟨a', c', S', rfl, hS', hO6, e6⟩
          refine ⟨_, rfl, ?_⟩
          have hRc := (hS'.drop hO6).2.2
          obtain ⟨hO7, e7⟩ := hO6.dropS
          have hK8 : Kept w3 _ _ w6 := Kept.to (e4.trans (e6.trans e7)) ((hO7.perm (pmC pm0)).r.perm (pmC pm0)).r
          refine d_back hK8 ?_
          refine d_one (i := 8) (listed' := #[true, true, true, true, true, true, true, true, true, false, false, false, false, false]) (by rfl) (by kernel_rfl) (by rfl) ?_
          refine s_build (vs := [(0, _), (1, _)]) (cells := #[_, _]) I88 pl88 rfl rfl ?_
          have hK9 : Kept w3 _ _ w6 := Kept.to (e4.trans (e6.trans e7)) ((hO7.perm (pmC pm0)).r.perm (pmC pm0)).r
          refine d_back hK9 ?_
          refine d_one (i := 9) (listed' := #[true, true, true, true, true, true, true, true, true, true, false, false, false, false]) (by rfl) (by kernel_rfl) (by rfl) ?_
          refine s_bsE (en := eW) (xs := [(nn, .slice a' bs.length c')]) (vs := [.agg _]) Try.underlying77 I88 hO7 rfl rfl (by simp [Value.cells]) (by decide) rfl ?_
          intro b42 w10 hz42 hl42 hO10 e10
          have hK11 : Kept w3 _ _ w10 := Kept.to (e4.trans (e6.trans (e7.trans e10))) ((hO10.t.perm (pmC pm0)).r.perm (pmC pm0)).r
          refine d_back hK11 ?_
          refine d_one (i := 10) (listed' := #[true, true, true, true, true, true, true, true, true, true, true, false, false, false]) (by rfl) (by kernel_rfl) (by rfl) ?_
          refine s_append Try.underlying77 I88 rfl (by decide) (by decide) rfl rfl hSw (hO10.perm (pmC (pmC pm0))) (litRd eW_len (m := 1) rfl (by decide) hO10).cs rfl (by simp [fl, eW, Value.oneCell']) (mk := _) rfl (by omega) ?_
          intro a43 c43 Sw2 w12 hSw2 hO12' e12'
          have hO12 := hO12'.perm (List.Perm.symm (pmC (pmC pm0))); have e12 := e12'.permB (pmC (pmC pm0)) (List.Perm.symm (pmC (pmC pm0))); clear hO12' e12'
          have hK13 : Kept w3 _ _ w12 := Kept.to (e4.trans (e6.trans (e7.trans (e10.trans e12)))) ((hO12.t.perm (pmC pm0)).r.perm (pmC pm0)).r
          refine d_back hK13 ?_
          refine d_one (i := 11) (listed' := #[true, true, true, true, true, true, true, true, true, true, true, true, false, false]) (by rfl) (by kernel_rfl) (by rfl) ?_
          refine s_nilCheck rfl ?_
          refine d_tail rfl ?_
          refine d_one (i := 12) (listed' := #[true, true, true, true, true, true, true, true, true, true, true, true, true, false]) (by rfl) (by kernel_rfl) (by rfl) ?_
          refine s_fieldAddr Try.underlying79 rfl I77 (by decide) rfl ?_
          refine d_tail rfl ?_
          refine d_one (i := 13) (listed' := #[true, true, true, true, true, true, true, true, true, true, true, true, true, true]) (by rfl) (by kernel_rfl) (by rfl) ?_
          refine s_store1 (v := .slice _ _ _) (o := 1) I77 rfl rfl rfl hO12 (i := 1) rfl rfl rfl ?_
          intro w14 hO14 e14
          refine d_tail rfl ?_
          refine d_done (by kernel_rfl) ?_
          refine c_next ?_
          refine c_seq ?_
          refine c_reg ?_
          refine s_assign (v := .int _ _) rfl ?_
          refine s_nil ?_
          refine c_next ?_
          refine c_ret ?_
          refine e_1 (v := .int _ _) Try.results42 rfl ?_
          obtain ⟨hO15, e15⟩ := hO14.drop1
          have hl : left ≠ 0 := hbs31.1 rfl
          rw [if_neg hl] at hdn31
          subst hdn31 hlf31
          have hOf : Own w14 ((p, .cells #[.slice ab bl.length cb, .slice a43 (wt.length + 1) c43, .slice ax bad.length cx, .bool false, .int .i64 (lessL left)] 79 (0, 0)) :: (Sw2 ++ (bkH gs bl ++ F))) := hO15
          have hlw : vw.length = wt.length := by rw [hRw.1, List.length_map]
          rw [zip_snoc (bs := bs) hlw] at hSw2
          rw [show DS.write ⟨bl, wt, bad, false, left⟩ (nn : Int) bs = (⟨bl, wt ++ [(nn, bs)], bad, false, lessL left⟩, 0) from (if_neg Bool.false_ne_true).trans ((if_neg (fun h => h ⟨hn, hb256⟩)).trans ((if_neg hbd).trans (if_neg hl)))]
          exact ⟨_, rfl, ⟨ab, cb, a43, c43, ax, cx, vw ++ [.slice a' bs.length c'], Sw2, by rw [List.length_append]; rfl, hok.write (by omega) hb256 hwl, hgs, (hRb.ext (e1.trans (e2.trans (e3.trans (e4.trans (e6.trans (e7.trans (e10.trans (e12.trans (e14.trans e15)))))))))), by rw [List.length_append]; exact hSw2, by rw [List.map_append]; exact RdAll.snoc (hRw.ext (e1.trans (e2.trans (e3.trans (e4.trans (e6.trans (e7.trans (e10.trans (e12.trans (e14.trans e15)))))))))) ⟨a', c', rfl, (hRc.ext (e10.trans (e12.trans (e14.trans e15)))), hS'.le.1⟩, (hRx.ext (e1.trans (e2.trans (e3.trans (e4.trans (e6.trans (e7.trans (e10.trans (e12.trans (e14.trans e15))))))))))⟩, hOf, (e1.trans (e2.trans (e3.trans (e4.trans (e6.trans (e7.trans (e10.trans (e12.trans (e14.trans e15)))))))))⟩
        | false =>
          refine ⟨_, rfl, ?_⟩
          refine s_not rfl ?_
          refine s_assign (v := .bool _) rfl ?_
          refine s_nil ?_
          refine c_next ?_
          refine c_condT rfl ?_
          refine c_seq ?_
          refine c_reg ?_
          refine s_assign (v := .int _ _) rfl ?_
          refine s_nil ?_
          refine c_next ?_
          refine c_ret ?_
          refine r_block ?_
          refine r_then ?_
          refine e_1 (v := .int _ _) Try.results42 rfl ?_
          have hl : left = 0 := Classical.byContradiction (fun h => by simpa using hbs31.2 h)
          rw [if_pos hl] at hdn31
          rw [if_neg (by omega)] at hlf31
          replace hlf31 := hlf31.symm
          subst hdn31 hlf31
          rw [show DS.write ⟨bl, wt, bad, false, left⟩ (nn : Int) bs = (⟨bl, wt, bad, true, left⟩, 19) from (if_neg Bool.false_ne_true).trans ((if_neg (fun h => h ⟨hn, hb256⟩)).trans ((if_neg hbd).trans (if_pos hl)))]
          exact ⟨_, rfl, ⟨ab, cb, aw, cw, ax, cx, vw, Sw, rfl, hok.left hl0 hl1, hgs, (hRb.ext (e1.trans (e2.trans e3))), hSw, (hRw.ext (e1.trans (e2.trans e3))), (hRx.ext (e1.trans (e2.trans e3)))⟩, hO3, (e1.trans (e2.trans e3))⟩
    | false =>
      have hn : ¬ (_ ∧ _) := fun h => by simpa using hbt15.2 h
      refine ⟨_, rfl, ?_⟩
      refine s_not rfl ?_
      refine s_move (v := .bool _) rfl ?_
      refine g_skip 17 (by rfl) (by rfl) (by rfl) ?_
      refine g_skip 17 (by rfl) (by rfl) (by rfl) ?_
      refine g_skip 17 (by rfl) (by rfl) (by rfl) ?_
      refine s_pickT (v := .bool _) rfl rfl ?_
      refine s_assign (v := .bool _) rfl ?_
      refine s_nil ?_
      refine c_next ?_
      refine c_condT rfl ?_
      refine c_seq ?_
      refine c_reg ?_
      refine s_assign (v := .int _ _) rfl ?_
      refine s_nil ?_
      refine c_next ?_
      refine c_ret ?_
      refine r_block ?_
      refine r_then ?_
      refine e_1 (v := .int _ _) Try.results42 rfl ?_
      rw [show DS.write ⟨bl, wt, bad, false, left⟩ _ bs = (_, 1) from (if_neg Bool.false_ne_true).trans (if_pos (fun h => hn h.1))]
      exact ⟨_, rfl, ⟨ab, cb, aw, cw, ax, cx, vw, Sw, rfl, hok, hgs, (hRb.ext e1), hSw, (hRw.ext e1), (hRx.ext e1)⟩, hO1, e1⟩

theorem disk_Sync (p : Nat) (d : DS) (gs : List Nat) (F : Hp) (w : World) (L : Hp) (hD : DiskAt w L p d gs F) (hO : Own w L) : Calls Try.prog 45 #[.pointer (some ⟨p, 0, none⟩)] w fun en w' => ∃ L', en = .returned (.int .i64 (d.sync.2 : Int)) ∧ DiskAt w' L' p d.sync.1 gs F ∧ Own w' L' ∧ Ext w L w' L' := by
  obtain ⟨bl, wt, bad, down, left⟩ := d
  obtain ⟨ab, cb, aw, cw, ax, cx, vw, Sw, rfl, hok, hgs, hRb, hSw, hRw, hRx⟩ := hD
  dsimp only at hgs hSw hRw hRx hO hRb ⊢
  have hbl := hok.most
  have hwm := hok.wtm
  have hbm := hok.badm
  have hl0 := hok.l0
  have hl1 := hok.l1
  have hblen := hok.len
  have hwts := hok.wts
  dsimp only at hbl hwm hbm hl0 hl1 hblen hwts
  refine enter (n := 38) _ Try.func45 rfl Try.ntmps45 (by simp) ?_
  refine c_seq ?_
  refine c_reg ?_
  refine s_assign (v := .int _ _) rfl ?_
  refine s_nil ?_
  refine c_next ?_
  refine c_seq ?_
  refine c_seq ?_
  refine c_reg ?_
  refine s_move (v := .pointer _) rfl ?_
  refine s_nilCheck rfl ?_
  refine s_fieldAddr Try.underlying79 rfl I4 (by decide) rfl ?_
  cases down with
  | true =>
    refine s_load1 Try.underlying4 rfl rfl (cellB (hO.get (i := 0) rfl) rfl rfl) ?_
    refine s_move (v := .bool _) rfl ?_
    refine g_skip 9 (by rfl) (by rfl) (by rfl) ?_
    refine g_skip 9 (by rfl) (by rfl) (by rfl) ?_
    refine g_skip 9 (by rfl) (by rfl) (by rfl) ?_
    refine s_pickT (v := .bool _) rfl rfl ?_
    refine s_nil ?_
    refine c_next ?_
    refine c_condT rfl ?_
    refine c_seq ?_
    refine c_reg ?_
    refine s_assign (v := .int _ _) rfl ?_
    refine s_nil ?_
    refine c_next ?_
    refine c_ret ?_
    refine r_then ?_
    refine e_1 (v := .int _ _) Try.results45 rfl ?_
    exact ⟨_, rfl, ⟨ab, cb, aw, cw, ax, cx, vw, Sw, rfl, hok, hgs, hRb, hSw, hRw, hRx⟩, hO, (Ext.refl _ _)⟩
  | false =>
    refine s_load1 Try.underlying4 rfl rfl (cellB (hO.get (i := 0) rfl) rfl rfl) ?_
    refine s_move (v := .bool _) rfl ?_
    refine g_do 9 (by rfl) (by rfl) ?_
    refine s_move (v := .pointer _) rfl ?_
    refine g_do 9 (by rfl) (by rfl) ?_
    refine s_call cf73 rfl (disk_step _ _ _ _ _ _ _ _ _ _ (by omega) (by omega) hO) ?_
    rintro er11 w1 ⟨bs11, dn11, lf11, rfl, hbs11, hdn11, hlf11, hO1, e1⟩
    cases bs11 with
    | true =>
      have hl : left ≠ 0 := hbs11.1 rfl
      rw [if_neg hl] at hdn11
      subst hdn11 hlf11
      refine ⟨_, rfl, ?_⟩
      refine g_do 9 (by rfl) (by rfl) ?_
      refine s_not rfl ?_
      refine s_pickF (v := .bool _) rfl rfl ?_
      refine s_nil ?_
      refine c_next ?_
      refine c_condF rfl ?_
      refine c_skip ?_
      refine c_next ?_
      refine c_seq ?_
      refine c_seq ?_
      refine c_reg ?_
      refine s_move (v := .pointer _) rfl ?_
      refine s_nilCheck rfl ?_
      refine s_fieldAddr Try.underlying79 rfl I77 (by decide) rfl ?_
      refine s_load1 Try.underlying77 rfl rfl (cellB (hO1.get (i := 0) rfl) rfl rfl) ?_
      refine s_len Try.underlying77 rfl ?_
      refine s_move (v := .int _ _) rfl ?_
      refine s_nil ?_
      refine c_next ?_
      refine c_block ?_
      have hRb := (hRb.ext e1)
      have hRw := (hRw.ext e1)
      have hRx := (hRx.ext e1)
      refine c_loopL hO1 (fun Lc f0 m g wl => ∃ (k : Nat), (m = wt.length - k) ∧ (g 19 = .int .i64 (k : Int)) ∧ (g 0 = f0 0) ∧ (g 17 = f0 17) ∧ (g 18 = f0 18) ∧ (k ≤ wt.length) ∧ (Own wl ((p, .cells #[.slice ab bl.length cb, .slice aw wt.length cw, .slice ax bad.length cx, .bool false, .int .i64 (lessL left)] 79 (0, 0)) :: (Sw ++ (bkH gs (laid bl (wt.take k)) ++ F)))) ∧ (Ext w1 Lc wl ((p, .cells #[.slice ab bl.length cb, .slice aw wt.length cw, .slice ax bad.length cx, .bool false, .int .i64 (lessL left)] 79 (0, 0)) :: (Sw ++ (bkH gs (laid bl (wt.take k)) ++ F))))) (wt.length - 0) ?_ ?_
      · refine ⟨0, rfl, (by first | rfl | (simp; done)), rfl, rfl, rfl, by omega, hO1, (Ext.refl _ _)⟩
      intro m2 g2 w2 hI2
      obtain ⟨k, hm2, hs2_19, hs2_0, hs2_17, hs2_18, hk, hO2, e2⟩ := hI2
      obtain ⟨q2, rfl⟩ := fr4 hs2_19 hs2_0 hs2_17 hs2_18
      clear hs2_19 hs2_0 hs2_17 hs2_18
      refine c_seq ?_
      refine c_reg ?_
      refine c_lss rfl rfl (fun h20 => ?_) (fun h20 => ?_)
      · skip
        obtain ⟨x, hxk⟩ : ∃ x, wt[k]? = some x := ⟨wt[k]'(by omega), by simp⟩
        have hx := hwts x (List.mem_of_getElem? hxk)
        obtain ⟨ak, ck, hvk, hRk, hck⟩ := RdAll.get (hRw.ext e2) (show (wt.map (·.2))[k]? = some x.2 by simp [hxk])
        rw [hx.2] at hvk hck
        have hll := laid_len bl (wt.take k)
        obtain ⟨bs, hbs⟩ : ∃ bs, (laid bl (wt.take k))[x.1]? = some bs := ⟨(laid bl (wt.take k))[x.1]'(by omega), by simp⟩
        obtain ⟨g, hg⟩ : ∃ g, gs[x.1]? = some g := ⟨gs[x.1]'(by omega), by simp⟩
        have hb256 := laid_all hblen (fun y hy => (hwts y (List.mem_of_mem_take hy)).2) bs (List.mem_of_getElem? hbs)
        obtain ⟨R, hp1, hp2⟩ := bk_out hg hbs
        refine s_nil ?_
        refine c_next ?_
        refine c_seq ?_
        refine c_condT rfl ?_
        refine c_skip ?_
        refine c_next ?_
        refine c_seq ?_
        refine c_block ?_
        refine c_seq ?_
        refine c_reg ?_
        refine s_idxE Try.underlying77 I88 rfl rfl (by omega) (by omega) (hSw.cs (hO2.perm (pmC pm0))) eW_len (by decide) (show ((wt.map (·.1)).zip vw)[k]? = some (x.1, .slice ak 256 ck) by simp [List.getElem?_zip_eq_some, hxk, hvk]) ?_
        intro p21 hp21
        refine s_loadN Try.underlying88 rfl I88 rfl rfl hp21 ?_
        refine s_alloc I88 hO2 ?_
        intro b4 w3 hz4 hl4 hO3 e3
        refine s_storeN I88 rfl rfl rfl hO3 (i := 0) rfl (Nat.le_of_ble_eq_true rfl) (List.all_eq_true.1 rfl) ?_
        intro w4 hO4 e4
        refine s_nil ?_
        refine c_next ?_
        refine d_startL hO4 ((hO4.perm (pmC (pmC pm0))).r.perm (pmC (pmC pm0))).r 11 (by kernel_rfl) (pk_block (pk_then (pk_then (pk_block (pk_then pk_body))))) ?_
        intro hP6 wd6 hK6 hO5 e5
        refine d_take (i := 0) (listed' := #[true, false, false, false, false, false, false, false, false, false, false]) (by rfl) (by kernel_rfl) (by rfl) hP6.t rfl hK6 (fun wS hS => r_move (v := .pointer _) rfl) ?_
        refine d_take (i := 1) (listed' := #[true, true, false, false, false, false, false, false, false, false, false]) (by rfl) (by kernel_rfl) (by rfl) hP6.t rfl hK6 (fun wS hS => r_nilCheck rfl) ?_
        refine d_take (i := 2) (listed' := #[true, true, true, false, false, false, false, false, false, false, false]) (by rfl) (by kernel_rfl) (by rfl) hP6.t rfl hK6 (fun wS hS => r_fieldAddr Try.underlying79 rfl I22 (by decide) rfl) ?_
        refine d_take (i := 3) (listed' := #[true, true, true, true, false, false, false, false, false, false, false]) (by rfl) (by kernel_rfl) (by rfl) hP6.t rfl hK6 (fun wS hS => r_load1 Try.underlying22 rfl rfl (cellB (hS.own.get (i := 1) rfl) rfl rfl)) ?_
        refine d_take (i := 4) (listed' := #[true, true, true, true, true, false, false, false, false, false, false]) (by rfl) (by kernel_rfl) (by rfl) hP6.t rfl hK6 (fun wS hS => r_fieldAddr Try.underlying88 rfl I3 (by decide) rfl) ?_
        refine d_take (i := 5) (listed' := #[true, true, true, true, true, true, false, false, false, false, false]) (by rfl) (by kernel_rfl) (by rfl) hP6.t rfl hK6 (fun wS hS => r_load1 Try.underlying3 rfl rfl (cellB (hS.own.get (i := 0) rfl) rfl rfl)) ?_
        obtain ⟨ad29, had29, hk29⟩ := idx_getE (Rd.cs (hRb.ext (e2.trans (e3.trans (e4.trans e5))))) eS_len (by decide) (show (gs.map slv)[x.1]? = some (slv g) by simp [hg])
        subst had29
        refine d_take (i := 6) (listed' := #[true, true, true, true, true, true, true, false, false, false, false]) (by rfl) (by kernel_rfl) (by rfl) hP6.t rfl hK6 (fun wS hS => r_idx Try.underlying22 I33 rfl rfl (by omega) (by omega)) ?_
        refine d_take (i := 7) (listed' := #[true, true, true, true, true, true, true, true, false, false, false]) (by rfl) (by kernel_rfl) (by rfl) hP6.t rfl hK6 (fun wS hS => r_load1 Try.underlying33 rfl rfl (cellP (hk29 _ ((hRb.ext (e2.trans (e3.trans e4))).kept hS)) 0 rfl)) ?_
        refine d_take (i := 8) (listed' := #[true, true, true, true, true, true, true, true, true, false, false]) (by rfl) (by kernel_rfl) (by rfl) hP6.t rfl hK6 (fun wS hS => r_fieldAddr Try.underlying88 rfl I33 (by decide) rfl) ?_
        refine d_take (i := 9) (listed' := #[true, true, true, true, true, true, true, true, true, true, false]) (by rfl) (by kernel_rfl) (by rfl) hP6.t rfl hK6 (fun wS hS => r_load1 Try.underlying33 rfl rfl (cellB (hS.own.get (i := 0) rfl) rfl rfl)) ?_
        refine d_one (i := 10) (listed' := #[true, true, true, true, true, true, true, true, true, true, true]) (by rfl) (by kernel_rfl) (by rfl) ?_
        obtain ⟨hOa, ea⟩ := hO5.permE ((pmC (pmC (pmA pm0))).trans (hp1.append_right _))
        refine s_copyB Try.underlying33 I5 rfl rfl hOa hb256 (by decide) (Rd.cs (hRk.ext (e3.trans (e4.trans (e5.trans ea))))) hx.2 ?_
        intro w7 hO7 e7
        have hz : x.2 ++ bs.drop 256 = x.2 := by rw [List.drop_of_length_le (by omega), List.append_nil]
        rw [hz] at hO7 e7
        obtain ⟨hOb, eb⟩ := hO7.permE (((hp2 _).append_right _).trans (pmC (pmC (pmA pm0))).symm)
        rw [← laid_take hxk] at hOb eb
        have hK8 : Kept w4 _ _ w7 := Kept.to (e5.trans (ea.trans (e7.trans eb))) ((hOb.perm (pmC (pmC pm0))).r.perm (pmC (pmC pm0))).r
        refine d_back hK8 ?_
        refine d_done (by kernel_rfl) ?_
        refine x_norm ?_
        refine c_next ?_
        refine c_reg ?_
        refine s_add rfl rfl (by omega) (by omega) ?_
        refine s_move (v := .int _ _) rfl ?_
        refine s_nil ?_
        obtain ⟨hO9, e9⟩ := hOb.drop1
        refine l_end (m' := wt.length - (k + 1)) (by omega) ?_
        refine ⟨k + 1, rfl, (by first | rfl | (simp; done) | (congr 1; omega)), rfl, rfl, rfl, by omega, hO9, (e2.trans (e3.trans (e4.trans (e5.trans (ea.trans (e7.trans (eb.trans e9)))))))⟩
      refine s_nil ?_
      refine c_next ?_
      refine c_seq ?_
      refine c_condF rfl ?_
      refine c_exit ?_
      refine x_then ?_
      refine x_then ?_
      refine x_same ?_
      refine c_next ?_
      refine c_seq ?_
      refine c_reg ?_
      refine s_move (v := .pointer _) rfl ?_
      refine s_nilCheck rfl ?_
      refine s_fieldAddr Try.underlying79 rfl I77 (by decide) rfl ?_
      refine s_store1 (v := .slice _ _ _) (o := 1) I77 rfl rfl rfl hO2 (i := 0) rfl rfl rfl ?_
      intro w10 hO10 e10
      refine s_nil ?_
      refine c_next ?_
      refine c_seq ?_
      refine c_reg ?_
      refine s_assign (v := .int _ _) rfl ?_
      refine s_nil ?_
      refine c_next ?_
      refine c_ret ?_
      refine e_1 (v := .int _ _) Try.results45 rfl ?_
      obtain ⟨hO11, e11⟩ := hO10.permE (pmC pm0)
      obtain ⟨hO12, e12⟩ := hO11.dropS
      obtain rfl : k = wt.length := by omega
      have hEf := (e2.trans (e10.trans (e11.trans e12)))
      have hRb := (hRb.ext (e2.trans (e10.trans (e11.trans e12))))
      have hRx := (hRx.ext (e2.trans (e10.trans (e11.trans e12))))
      rw [List.take_length] at hO12 hEf hRb hRx
      have hx_ : DS.sync ⟨bl, wt, bad, false, left⟩ = (⟨laid bl wt, [], bad, false, lessL left⟩, 0) := (if_neg Bool.false_ne_true).trans (if_neg hl)
      rw [hx_]
      obtain ⟨LF, hLF⟩ : ∃ LF, LF = ((p, .cells #[.slice ab bl.length cb, .slice none 0 0, .slice ax bad.length cx, .bool false, .int .i64 (lessL left)] 79 (0, 0)) :: ([] ++ (bkH gs (laid bl wt) ++ F))) := ⟨_, rfl⟩
      have hOf : Own w10 ((p, .cells #[.slice ab bl.length cb, .slice none 0 0, .slice ax bad.length cx, .bool false, .int .i64 (lessL left)] 79 (0, 0)) :: ([] ++ (bkH gs (laid bl wt) ++ F))) := hO12
      have hRb : Rd w10 ((p, .cells #[.slice ab bl.length cb, .slice none 0 0, .slice ax bad.length cx, .bool false, .int .i64 (lessL left)] 79 (0, 0)) :: ([] ++ (bkH gs (laid bl wt) ++ F))) ab (fl eS (gs.map slv)) := hRb
      have hRx : Rd w10 ((p, .cells #[.slice ab bl.length cb, .slice none 0 0, .slice ax bad.length cx, .bool false, .int .i64 (lessL left)] 79 (0, 0)) :: ([] ++ (bkH gs (laid bl wt) ++ F))) ax (fl eI bad) := hRx
      have hEf : Ext _ _ w10 ((p, .cells #[.slice ab bl.length cb, .slice none 0 0, .slice ax bad.length cx, .bool false, .int .i64 (lessL left)] 79 (0, 0)) :: ([] ++ (bkH gs (laid bl wt) ++ F))) := hEf
      rw [← hLF] at hOf hRb hRx hEf
      exact ⟨LF, rfl, ⟨ab, cb, none, 0, ax, cx, [], [], by rw [laid_len]; exact hLF, hok.sync, by rw [laid_len]; exact hgs, hRb, OwnSl.nil _ _, RdAll.nil _ _, hRx⟩, hOf, e1.trans hEf⟩
    | false =>
      refine ⟨_, rfl, ?_⟩
      refine g_do 9 (by rfl) (by rfl) ?_
      refine s_not rfl ?_
      refine s_pickF (v := .bool _) rfl rfl ?_
      refine s_nil ?_
      refine c_next ?_
      refine c_condT rfl ?_
      refine c_seq ?_
      refine c_reg ?_
      refine s_assign (v := .int _ _) rfl ?_
      refine s_nil ?_
      refine c_next ?_
      refine c_ret ?_
      refine r_then ?_
      refine e_1 (v := .int _ _) Try.results45 rfl ?_
      have hl : left = 0 := Classical.byContradiction (fun h => by simpa using hbs11.2 h)
      rw [if_pos hl] at hdn11
      rw [if_neg (by omega)] at hlf11
      replace hlf11 := hlf11.symm
      subst hdn11 hlf11
      rw [show DS.sync ⟨bl, wt, bad, false, left⟩ = (⟨bl, wt, bad, true, left⟩, 19) from (if_neg Bool.false_ne_true).trans (if_pos hl)]
      exact ⟨_, rfl, ⟨ab, cb, aw, cw, ax, cx, vw, Sw, rfl, hok.left hl0 hl1, hgs, (hRb.ext e1), hSw, (hRw.ext e1), (hRx.ext e1)⟩, hO1, e1⟩

theorem disk_Cut (p : Nat) (d : DS) (gs : List Nat) (F : Hp) (w : World) (L : Hp) (hD : DiskAt w L p d gs F) (hO : Own w L) (n : Int) (hn : n ≤ 9223372036854775807) : Calls Try.prog 11 #[.pointer (some ⟨p, 0, none⟩), .int .i64 n] w fun en w' => ∃ L', en = .returned (.tuple #[]) ∧ DiskAt w' L' p (d.cut n) gs F ∧ Own w' L' ∧ Ext w L w' L' := by
  obtain ⟨bl, wt, bad, down, left⟩ := d
  obtain ⟨ab, cb, aw, cw, ax, cx, vw, Sw, rfl, hok, hgs, hRb, hSw, hRw, hRx⟩ := hD
  dsimp only at hgs hSw hRw hRx hO hRb ⊢
  have hbl := hok.most
  have hwm := hok.wtm
  have hbm := hok.badm
  have hl0 := hok.l0
  have hl1 := hok.l1
  have hblen := hok.len
  have hwts := hok.wts
  dsimp only at hbl hwm hbm hl0 hl1 hblen hwts
  refine enter (n := 9) _ Try.func11 rfl Try.ntmps11 (by simp) ?_
  refine c_reg ?_
  refine s_move (v := .pointer _) rfl ?_
  refine s_move (v := .int _ _) rfl ?_
  refine s_max2 rfl rfl ?_
  refine s_nilCheck rfl ?_
  refine s_fieldAddr Try.underlying79 rfl I3 (by decide) rfl ?_
  refine s_store1 (v := .int _ _) (o := 4) I3 rfl rfl rfl hO (i := 0) rfl rfl rfl ?_
  intro w1 hO1 e1
  refine s_nil ?_
  refine e_norm ?_
  refine e_0 Try.results11 ?_
  have hOf : Own w1 ((p, .cells #[.slice ab bl.length cb, .slice aw wt.length cw, .slice ax bad.length cx, .bool down, .int .i64 (max n 0)] 79 (0, 0)) :: (Sw ++ (bkH gs bl ++ F))) := hO1
  exact ⟨_, rfl, ⟨ab, cb, aw, cw, ax, cx, vw, Sw, rfl, hok.left (by omega) (by omega), hgs, (hRb.ext e1), hSw, (hRw.ext e1), (hRx.ext e1)⟩, hO1, e1⟩

theorem disk_Crash (p : Nat) (d : DS) (gs : List Nat) (F : Hp) (w : World) (L : Hp) (hD : DiskAt w L p d gs F) (hO : Own w L) (a : Option Addr) (c : Nat) (pks : List Int) (hR : Rd w L a (fl eI pks)) (hpk : pks.length ≤ 1000000000000) : Calls Try.prog 12 #[.pointer (some ⟨p, 0, none⟩), .slice a pks.length c] w fun en w' => ∃ L', en = .returned (.tuple #[]) ∧ DiskAt w' L' p (d.crash pks) gs F ∧ Own w' L' ∧ Ext w L w' L' := by
  obtain ⟨bl, wt, bad, down, left⟩ := d
  obtain ⟨ab, cb, aw, cw, ax, cx, vw, Sw, rfl, hok, hgs, hRb, hSw, hRw, hRx⟩ := hD
  dsimp only at hgs hSw hRw hRx hO hRb ⊢
  have hbl := hok.most
  have hwm := hok.wtm
  have hbm := hok.badm
  have hl0 := hok.l0
  have hl1 := hok.l1
  have hblen := hok.len
  have hwts := hok.wts
  dsimp only at hbl hwm hbm hl0 hl1 hblen hwts
  refine enter (n := 48) _ Try.func12 rfl Try.ntmps12 (by simp) ?_
  refine c_seq ?_
  refine c_seq ?_
  refine c_reg ?_
  refine s_move (v := .pointer _) rfl ?_
  refine s_nilCheck rfl ?_
  refine s_fieldAddr Try.underlying79 rfl I77 (by decide) rfl ?_
  refine s_load1 Try.underlying77 rfl rfl (cellB (hO.get (i := 0) rfl) rfl rfl) ?_
  refine s_len Try.underlying77 rfl ?_
  refine s_move (v := .int _ _) rfl ?_
  refine s_nil ?_
  refine c_next ?_
  refine c_block ?_
  refine c_loopL hO (fun Lc f0 m g wl => ∃ (k : Nat), (m = wt.length - k) ∧ (g 11 = .int .i64 (k : Int)) ∧ (g 0 = f0 0) ∧ (g 1 = f0 1) ∧ (g 9 = f0 9) ∧ (g 10 = f0 10) ∧ (k ≤ wt.length) ∧ (Own wl ((p, .cells #[.slice ab bl.length cb, .slice aw wt.length cw, .slice ax bad.length cx, .bool down, .int .i64 left] 79 (0, 0)) :: (Sw ++ (bkH gs (crashed bl (wt.take k) pks) ++ F)))) ∧ (Ext w Lc wl ((p, .cells #[.slice ab bl.length cb, .slice aw wt.length cw, .slice ax bad.length cx, .bool down, .int .i64 left] 79 (0, 0)) :: (Sw ++ (bkH gs (crashed bl (wt.take k) pks) ++ F))))) (wt.length - 0) ?_ ?_
  · refine ⟨0, rfl, (by first | rfl | (simp; done)), rfl, rfl, rfl, rfl, by omega, hO, (Ext.refl _ _)⟩
  intro m1 g1 w1 hI1
  obtain ⟨k, hm1, hs1_11, hs1_0, hs1_1, hs1_9, hs1_10, hk, hO1, e1⟩ := hI1
  obtain ⟨q1, rfl⟩ := fr5 hs1_11 hs1_0 hs1_1 hs1_9 hs1_10
  clear hs1_11 hs1_0 hs1_1 hs1_9 hs1_10
  refine c_seq ?_
  refine c_reg ?_
  refine c_lss rfl rfl (fun h12 => ?_) (fun h12 => ?_)
  · skip
    obtain ⟨x, hxk⟩ : ∃ x, wt[k]? = some x := ⟨wt[k]'(by omega), by simp⟩
    have hx := hwts x (List.mem_of_getElem? hxk)
    obtain ⟨ak, ck, hvk, hRk, hck⟩ := RdAll.get (hRw.ext e1) (show (wt.map (·.2))[k]? = some x.2 by simp [hxk])
    rw [hx.2] at hvk hck
    have hll := crashed_len (wt.take k) pks bl
    obtain ⟨bs, hbs⟩ : ∃ bs, (crashed bl (wt.take k) pks)[x.1]? = some bs := ⟨(crashed bl (wt.take k) pks)[x.1]'(by omega), by simp⟩
    obtain ⟨g, hg⟩ : ∃ g, gs[x.1]? = some g := ⟨gs[x.1]'(by omega), by simp⟩
    have hb256 := crashed_all hblen (fun y hy => hwts y (List.mem_of_mem_take hy)) bs (List.mem_of_getElem? hbs)
    obtain ⟨R, hp1, hp2⟩ := bk_out hg hbs
    refine s_nil ?_
    refine c_next ?_
    refine c_seq ?_
    refine c_condT rfl ?_
    refine c_skip ?_
    refine c_next ?_
    refine c_seq ?_
    refine c_block ?_
    refine c_seq ?_
    refine c_reg ?_
    refine s_move (v := .int _ _) rfl ?_
    refine s_idxE Try.underlying77 I88 rfl rfl (by omega) (by omega) (hSw.cs (hO1.perm (pmC pm0))) eW_len (by decide) (show ((wt.map (·.1)).zip vw)[k]? = some (x.1, .slice ak 256 ck) by simp [List.getElem?_zip_eq_some, hxk, hvk]) ?_
    intro p14 hp14
    refine s_loadN Try.underlying88 rfl I88 rfl rfl hp14 ?_
    refine s_alloc I88 hO1 ?_
    intro b5 w2 hz5 hl5 hO2 e2
    refine s_assign (v := .int _ _) rfl ?_
    refine s_storeN I88 rfl rfl rfl hO2 (i := 0) rfl (Nat.le_of_ble_eq_true rfl) (List.all_eq_true.1 rfl) ?_
    intro w3 hO3 e3
    refine s_nil ?_
    refine c_next ?_
    refine c_seq ?_
    refine c_reg ?_
    refine s_move (v := .int _ _) rfl ?_
    refine s_move (v := .slice _ _ _) rfl ?_
    refine s_len Try.underlying23 rfl ?_
    refine c_lss rfl rfl (fun h19 => ?_) (fun h19 => ?_)
    · skip
      obtain ⟨pk, hpkk⟩ : ∃ pk, pks[k]? = some pk := ⟨pks[k]'(by omega), by simp⟩
      have hct := crashed_take (bl := bl) hxk hpkk
      have hgd : (crashed bl (wt.take k) pks).getD x.1 [] = bs := by simp [hbs]
      unfold partly at hct
      rw [hgd] at hct
      refine s_nil ?_
      refine c_next ?_
      refine c_condT rfl ?_
      refine d_startL hO3 ((hO3.perm (pmC (pmC pm0))).r.perm (pmC (pmC pm0))).r 18 (by kernel_rfl) (pk_block (pk_then (pk_then (pk_block (pk_then pk_body))))) ?_
      intro hP5 wd5 hK5 hO4 e4
      refine d_take (i := 0) (listed' := #[true, false, false, false, false, false, false, false, false, false, false, false, false, false, false, false, false, false]) (by rfl) (by kernel_rfl) (by rfl) hP5.t rfl hK5 (fun wS hS => r_move (v := .pointer _) rfl) ?_
      refine d_take (i := 1) (listed' := #[true, true, false, false, false, false, false, false, false, false, false, false, false, false, false, false, false, false]) (by rfl) (by kernel_rfl) (by rfl) hP5.t rfl hK5 (fun wS hS => r_nilCheck rfl) ?_
      refine d_take (i := 2) (listed' := #[true, true, true, false, false, false, false, false, false, false, false, false, false, false, false, false, false, false]) (by rfl) (by kernel_rfl) (by rfl) hP5.t rfl hK5 (fun wS hS => r_fieldAddr Try.underlying79 rfl I22 (by decide) rfl) ?_
      refine d_take (i := 3) (listed' := #[true, true, true, true, false, false, false, false, false, false, false, false, false, false, false, false, false, false]) (by rfl) (by kernel_rfl) (by rfl) hP5.t rfl hK5 (fun wS hS => r_load1 Try.underlying22 rfl rfl (cellB (hS.own.get (i := 1) rfl) rfl rfl)) ?_
      refine d_take (i := 4) (listed' := #[true, true, true, true, true, false, false, false, false, false, false, false, false, false, false, false, false, false]) (by rfl) (by kernel_rfl) (by rfl) hP5.t rfl hK5 (fun wS hS => r_fieldAddr Try.underlying88 rfl I3 (by decide) rfl) ?_
      refine d_take (i := 5) (listed' := #[true, true, true, true, true, true, false, false, false, false, false, false, false, false, false, false, false, false]) (by rfl) (by kernel_rfl) (by rfl) hP5.t rfl hK5 (fun wS hS => r_load1 Try.underlying3 rfl rfl (cellB (hS.own.get (i := 0) rfl) rfl rfl)) ?_
      obtain ⟨ad26, had26, hk26⟩ := idx_getE (Rd.cs (hRb.ext (e1.trans (e2.trans (e3.trans e4))))) eS_len (by decide) (show (gs.map slv)[x.1]? = some (slv g) by simp [hg])
      subst had26
      refine d_take (i := 6) (listed' := #[true, true, true, true, true, true, true, false, false, false, false, false, false, false, false, false, false, false]) (by rfl) (by kernel_rfl) (by rfl) hP5.t rfl hK5 (fun wS hS => r_idx Try.underlying22 I33 rfl rfl (by omega) (by omega)) ?_
      refine d_take (i := 7) (listed' := #[true, true, true, true, true, true, true, true, false, false, false, false, false, false, false, false, false, false]) (by rfl) (by kernel_rfl) (by rfl) hP5.t rfl hK5 (fun wS hS => r_load1 Try.underlying33 rfl rfl (cellP (hk26 _ ((hRb.ext (e1.trans (e2.trans e3))).kept hS)) 0 rfl)) ?_
      refine d_take (i := 8) (listed' := #[true, true, true, true, true, true, true, true, true, false, false, false, false, false, false, false, false, false]) (by rfl) (by kernel_rfl) (by rfl) hP5.t rfl hK5 (fun wS hS => r_fieldAddr Try.underlying88 rfl I33 (by decide) rfl) ?_
      refine d_take (i := 9) (listed' := #[true, true, true, true, true, true, true, true, true, true, false, false, false, false, false, false, false, false]) (by rfl) (by kernel_rfl) (by rfl) hP5.t rfl hK5 (fun wS hS => r_load1 Try.underlying33 rfl rfl (cellB (hS.own.get (i := 0) rfl) rfl rfl)) ?_
      refine d_take (i := 10) (listed' := #[true, true, true, true, true, true, true, true, true, true, true, false, false, false, false, false, false, false]) (by rfl) (by kernel_rfl) (by rfl) hP5.t rfl hK5 (fun wS hS => r_move (v := .slice _ _ _) rfl) ?_
      refine d_take (i := 11) (listed' := #[true, true, true, true, true, true, true, true, true, true, true, true, false, false, false, false, false, false]) (by rfl) (by kernel_rfl) (by rfl) hP5.t rfl hK5 (fun wS hS => r_move (v := .int _ _) rfl) ?_
      obtain ⟨ad32, had32, hk32⟩ := idx_getE (Rd.cs (hR.ext (e1.trans (e2.trans (e3.trans e4))))) eI_len (by decide) (by simpa using hpkk)
      subst had32
      refine d_take (i := 12) (listed' := #[true, true, true, true, true, true, true, true, true, true, true, true, true, false, false, false, false, false]) (by rfl) (by kernel_rfl) (by rfl) hP5.t rfl hK5 (fun wS hS => r_idx Try.underlying23 I3 rfl rfl (by omega) (by omega)) ?_
      refine d_take (i := 13) (listed' := #[true, true, true, true, true, true, true, true, true, true, true, true, true, true, false, false, false, false]) (by rfl) (by kernel_rfl) (by rfl) hP5.t rfl hK5 (fun wS hS => r_load1 Try.underlying3 rfl rfl (cellP (hk32 _ ((hR.ext (e1.trans (e2.trans e3))).kept hS)) 0 rfl)) ?_
      refine d_take (i := 14) (listed' := #[true, true, true, true, true, true, true, true, true, true, true, true, true, true, true, false, false, false]) (by rfl) (by kernel_rfl) (by rfl) hP5.t rfl hK5 (fun wS hS => r_max2 rfl rfl) ?_
      refine d_take (i := 15) (listed' := #[true, true, true, true, true, true, true, true, true, true, true, true, true, true, true, true, false, false]) (by rfl) (by kernel_rfl) (by rfl) hP5.t rfl hK5 (fun wS hS => r_min2 rfl rfl) ?_
      refine d_take (i := 16) (listed' := #[true, true, true, true, true, true, true, true, true, true, true, true, true, true, true, true, true, false]) (by rfl) (by kernel_rfl) (by rfl) hP5.t rfl hK5 (fun wS hS => r_cut Try.underlying33 I5 rfl (sb_h (kd := .i64) (h := min (max pk 0) 256) (c := ck) (by omega) (by omega))) ?_
      refine d_one (i := 17) (listed' := #[true, true, true, true, true, true, true, true, true, true, true, true, true, true, true, true, true, true]) (by rfl) (by kernel_rfl) (by rfl) ?_
      obtain ⟨hOa, ea⟩ := hO4.permE ((pmC (pmC (pmA pm0))).trans (hp1.append_right _))
      refine s_copyB Try.underlying33 I5 rfl rfl hOa hb256 (by omega) (by rw [cut0]; exact (Rd.cs (Rd.take (by rw [← fl_app, List.take_append_drop]; exact (hRk.ext (e2.trans (e3.trans (e4.trans ea)))))))) (show (x.2.take (min (max pk 0) 256).toNat).length = (min (max pk 0) 256).toNat by rw [List.length_take]; omega) ?_
      intro w6 hO6 e6
      rw [Nat.sub_zero] at hO6 e6
      obtain ⟨hOb, eb⟩ := hO6.permE (((hp2 _).append_right _).trans (pmC (pmC (pmA pm0))).symm)
      rw [← hct] at hOb eb
      have hK7 : Kept w3 _ _ w6 := Kept.to (e4.trans (ea.trans (e6.trans eb))) ((hOb.perm (pmC (pmC pm0))).r.perm (pmC (pmC pm0))).r
      refine d_back hK7 ?_
      refine d_done (by kernel_rfl) ?_
      refine x_norm ?_
      refine c_next ?_
      refine c_reg ?_
      refine s_add rfl rfl (by omega) (by omega) ?_
      refine s_move (v := .int _ _) rfl ?_
      refine s_nil ?_
      obtain ⟨hO8, e8⟩ := hOb.drop1
      refine l_end (m' := wt.length - (k + 1)) (by omega) ?_
      refine ⟨k + 1, rfl, (by first | rfl | (simp; done) | (congr 1; omega)), rfl, rfl, rfl, rfl, by omega, hO8, (e1.trans (e2.trans (e3.trans (e4.trans (ea.trans (e6.trans (eb.trans e8)))))))⟩
    have hct := crashed_none (bl := bl) (wt := wt) (show pks.length ≤ k by omega)
    refine s_nil ?_
    refine c_next ?_
    refine c_condF rfl ?_
    refine c_skip ?_
    refine x_norm ?_
    refine c_next ?_
    refine c_reg ?_
    refine s_add rfl rfl (by omega) (by omega) ?_
    refine s_move (v := .int _ _) rfl ?_
    refine s_nil ?_
    obtain ⟨hO9, e9⟩ := hO3.drop1
    refine l_end (m' := wt.length - (k + 1)) (by omega) ?_
    refine ⟨k + 1, rfl, (by first | rfl | (simp; done) | (congr 1; omega)), rfl, rfl, rfl, rfl, by omega, (by rw [hct]; exact hO9), (by rw [hct]; exact (e1.trans (e2.trans (e3.trans e9))))⟩
  refine s_nil ?_
  refine c_next ?_
  refine c_seq ?_
  refine c_condF rfl ?_
  refine c_exit ?_
  refine x_then ?_
  refine x_then ?_
  refine x_same ?_
  refine c_next ?_
  refine c_reg ?_
  refine s_move (v := .pointer _) rfl ?_
  refine s_move (v := .pointer _) rfl ?_
  refine s_move (v := .pointer _) rfl ?_
  refine s_nilCheck rfl ?_
  refine s_fieldAddr Try.underlying79 rfl I77 (by decide) rfl ?_
  refine s_store1 (v := .slice _ _ _) (o := 1) I77 rfl rfl rfl hO1 (i := 0) rfl rfl rfl ?_
  intro w10 hO10 e10
  refine s_nilCheck rfl ?_
  refine s_fieldAddr Try.underlying79 rfl I4 (by decide) rfl ?_
  refine s_store1 (v := .bool _) (o := 3) I4 rfl rfl rfl hO10 (i := 0) rfl rfl rfl ?_
  intro w11 hO11 e11
  refine s_nilCheck rfl ?_
  refine s_fieldAddr Try.underlying79 rfl I3 (by decide) rfl ?_
  refine s_store1 (v := .int _ _) (o := 4) I3 rfl rfl rfl hO11 (i := 0) rfl rfl rfl ?_
  intro w12 hO12 e12
  refine s_nil ?_
  refine e_norm ?_
  refine e_0 Try.results12 ?_
  obtain ⟨hO13, e13⟩ := hO12.permE (pmC pm0)
  obtain ⟨hO14, e14⟩ := hO13.dropS
  obtain rfl : k = wt.length := by omega
  have hEf := (e1.trans (e10.trans (e11.trans (e12.trans (e13.trans e14)))))
  have hRb := (hRb.ext (e1.trans (e10.trans (e11.trans (e12.trans (e13.trans e14))))))
  have hRx := (hRx.ext (e1.trans (e10.trans (e11.trans (e12.trans (e13.trans e14))))))
  rw [List.take_length] at hO14 hEf hRb hRx
  obtain ⟨LF, hLF⟩ : ∃ LF, LF = ((p, .cells #[.slice ab bl.length cb, .slice none 0 0, .slice ax bad.length cx, .bool false, .int .i64 (-1)] 79 (0, 0)) :: ([] ++ (bkH gs (crashed bl wt pks) ++ F))) := ⟨_, rfl⟩
  have hOf : Own w12 ((p, .cells #[.slice ab bl.length cb, .slice none 0 0, .slice ax bad.length cx, .bool false, .int .i64 (-1)] 79 (0, 0)) :: ([] ++ (bkH gs (crashed bl wt pks) ++ F))) := hO14
  have hRb : Rd w12 ((p, .cells #[.slice ab bl.length cb, .slice none 0 0, .slice ax bad.length cx, .bool false, .int .i64 (-1)] 79 (0, 0)) :: ([] ++ (bkH gs (crashed bl wt pks) ++ F))) ab (fl eS (gs.map slv)) := hRb
  have hRx : Rd w12 ((p, .cells #[.slice ab bl.length cb, .slice none 0 0, .slice ax bad.length cx, .bool false, .int .i64 (-1)] 79 (0, 0)) :: ([] ++ (bkH gs (crashed bl wt pks) ++ F))) ax (fl eI bad) := hRx
  have hEf : Ext _ _ w12 ((p, .cells #[.slice ab bl.length cb, .slice none 0 0, .slice ax bad.length cx, .bool false, .int .i64 (-1)] 79 (0, 0)) :: ([] ++ (bkH gs (crashed bl wt pks) ++ F))) := hEf
  rw [← hLF] at hOf hRb hRx hEf
  exact ⟨LF, rfl, ⟨ab, cb, none, 0, ax, cx, [], [], by rw [show (DS.crash ⟨bl, wt, bad, down, left⟩ pks).bl = crashed bl wt pks from rfl, crashed_len]; exact hLF, hok.crash, by rw [show (DS.crash ⟨bl, wt, bad, down, left⟩ pks).bl = crashed bl wt pks from rfl, crashed_len]; exact hgs, hRb, OwnSl.nil _ _, RdAll.nil _ _, hRx⟩, hOf, hEf⟩

theorem disk_New (n : Nat) (hn : 1 ≤ n ∧ n ≤ 256) (a : Option Addr) (c : Nat) (bad : List Int) (hbad : bad.length ≤ 1000000) (w : World) (L : Hp) (hR : Rd w L a (fl eI bad)) (hO : Own w L) :
    Calls Try.prog 8 #[.int .i64 (n : Int), .slice a bad.length c] w fun en w' => ∃ p gs L', en = .returned (.tuple #[.pointer (some ⟨p, 0, none⟩), .int .i64 0]) ∧ DiskAt w' L' p ⟨List.replicate n zeros256, [], bad, false, -1⟩ gs L ∧ Own w' L' ∧ Ext w L w' L' := by
  refine enter (n := 32) _ Try.func8 rfl Try.ntmps8 (by simp) ?_
  refine c_seq ?_
  refine c_reg ?_
  refine s_assign (v := .pointer _) rfl ?_
  refine s_assign (v := .int _ _) rfl ?_
  refine s_nil ?_
  refine c_next ?_
  refine c_seq ?_
  refine c_seq ?_
  refine c_reg ?_
  refine s_move (v := .int _ _) rfl ?_
  refine c_lss rfl rfl (fun h8 => ?_) (fun h8 => ?_)
  · exfalso; omega
  refine s_move (v := .bool _) rfl ?_
  refine g_do 9 (by rfl) (by rfl) ?_
  refine s_move (v := .int _ _) rfl ?_
  refine g_do 9 (by rfl) (by rfl) ?_
  refine c_gtr rfl rfl (fun h11 => ?_) (fun h11 => ?_)
  · exfalso; omega
  refine s_pickF (v := .bool _) rfl rfl ?_
  refine s_nil ?_
  refine c_next ?_
  refine c_condF rfl ?_
  refine c_skip ?_
  refine c_next ?_
  refine c_seq ?_
  refine c_reg ?_
  refine s_move (v := .slice _ _ _) rfl ?_
  refine s_call cf30 rfl (cloneI a c bad bad.length rfl _ _ hR (by omega) hO) ?_
  rintro er14 w1 ⟨a', c', S', rfl, hS', hO1, e1⟩
  refine ⟨_, rfl, ?_⟩
  have hRx := (hS'.drop hO1).2.2
  obtain ⟨hO2, e2⟩ := hO1.dropS
  refine s_build (vs := [(2, _), (4, _)]) (cells := #[_, _, _, _, _]) I79 pl79 rfl rfl ?_
  refine s_box (v := .agg _) rfl hO2 ?_
  intro b16 w3 hz16 hl16 hO3 e3
  refine s_assign (v := .pointer _) rfl ?_
  refine s_nil ?_
  refine c_next ?_
  refine c_seq ?_
  refine c_seq ?_
  refine c_reg ?_
  refine s_move (v := .int _ _) rfl ?_
  refine s_move (v := .int _ _) rfl ?_
  refine s_nil ?_
  refine c_next ?_
  refine c_block ?_
  have hR := (hR.ext (e1.trans (e2.trans e3)))
  have hRx := (hRx.ext e3)
  refine c_loopL hO3 (fun Lc f0 m g wl => ∃ (k : Nat) (ab : Option Addr) (cb : Nat) (gs : List Nat) (Sb : Hp), (m = n - k) ∧ (g 18 = .int .i64 (k : Int)) ∧ (g 0 = f0 0) ∧ (g 1 = f0 1) ∧ (g 6 = f0 6) ∧ (g 17 = f0 17) ∧ (k ≤ n) ∧ (gs.length = k) ∧ (OwnSl 33 1 ab k cb (fl eS (gs.map slv)) Sb) ∧ (Own wl ((b16, .cells #[.slice ab k cb, .slice none 0 0, .slice a' bad.length c', .bool false, .int .i64 (-1)] 79 (0, 0)) :: (Sb ++ (bkH gs (List.replicate k zeros256) ++ L)))) ∧ (Ext w3 Lc wl ((b16, .cells #[.slice ab k cb, .slice none 0 0, .slice a' bad.length c', .bool false, .int .i64 (-1)] 79 (0, 0)) :: (Sb ++ (bkH gs (List.replicate k zeros256) ++ L))))) (n - 0) ?_ ?_
  · refine ⟨0, none, 0, [], [], rfl, (by first | rfl | (simp; done)), rfl, rfl, rfl, rfl, by omega, rfl, OwnSl.nil _ _, hO3, (Ext.refl _ _)⟩
  intro m4 g4 w4 hI4
  obtain ⟨k, ab, cb, gs, Sb, hm4, hs4_18, hs4_0, hs4_1, hs4_6, hs4_17, hk, hgs, hSb, hO4, e4⟩ := hI4
  obtain ⟨q4, rfl⟩ := fr5 hs4_18 hs4_0 hs4_1 hs4_6 hs4_17
  clear hs4_18 hs4_0 hs4_1 hs4_6 hs4_17
  refine c_seq ?_
  refine c_reg ?_
  refine c_lss rfl rfl (fun h19 => ?_) (fun h19 => ?_)
  · skip
    refine s_nil ?_
    refine c_next ?_
    refine c_seq ?_
    refine c_condT rfl ?_
    refine c_skip ?_
    refine c_next ?_
    refine c_seq ?_
    refine c_block ?_
    refine d_startL hO4 ((hO4.perm (pmC pm0)).r.perm (pmC pm0)).r 8 (by kernel_rfl) (pk_block (pk_then (pk_then (pk_block (pk_then pk_body))))) ?_
    intro hP6 wd6 hK6 hO5 e5
    refine d_take (i := 0) (listed' := #[true, false, false, false, false, false, false, false, false, false, false]) (by rfl) (by kernel_rfl) (by rfl) hP6.t rfl hK6 (fun wS hS => r_move (v := .pointer _) rfl) ?_
    refine d_take (i := 1) (listed' := #[true, true, false, false, false, false, false, false, false, false, false]) (by rfl) (by kernel_rfl) (by rfl) hP6.t rfl hK6 (fun wS hS => r_move (v := .pointer _) rfl) ?_
    refine d_take (i := 2) (listed' := #[true, true, true, false, false, false, false, false, false, false, false]) (by rfl) (by kernel_rfl) (by rfl) hP6.t rfl hK6 (fun wS hS => r_nilCheck rfl) ?_
    refine d_take (i := 3) (listed' := #[true, true, true, true, false, false, false, false, false, false, false]) (by rfl) (by kernel_rfl) (by rfl) hP6.t rfl hK6 (fun wS hS => r_fieldAddr Try.underlying79 rfl I22 (by decide) rfl) ?_
    refine d_take (i := 4) (listed' := #[true, true, true, true, true, false, false, false, false, false, false]) (by rfl) (by kernel_rfl) (by rfl) hP6.t rfl hK6 (fun wS hS => r_load1 Try.underlying22 rfl rfl (cellB (hS.own.get (i := 0) rfl) rfl rfl)) ?_
    refine d_one (i := 5) (listed' := #[true, true, true, true, true, true, false, false, false, false, false]) (by rfl) (by kernel_rfl) (by rfl) ?_
    refine s_make Try.underlying33 I5 rfl hO5 (m := 256) rfl rfl (by decide) (by decide) ?_
    intro b25 w7 hz25 hl25 hO7 e7
    rw [fl_rep0] at hO7 e7
    have hK8 : Kept w4 _ _ w7 := Kept.to (e5.trans e7) ((hO7.t.perm (pmC pm0)).r.perm (pmC pm0)).r
    refine d_back hK8 ?_
    refine d_one (i := 6) (listed' := #[true, true, true, true, true, true, true, false, false, false, false]) (by rfl) (by kernel_rfl) (by rfl) ?_
    refine s_bsE (en := eS) (xs := [slv b25]) (vs := [.slice _ _ _]) Try.underlying22 I33 hO7 rfl rfl (by simp [Value.cells]) (by decide) rfl ?_
    intro b26 w9 hz26 hl26 hO9 e9
    have hK10 : Kept w4 _ _ w9 := Kept.to (e5.trans (e7.trans e9)) ((hO9.t.t.perm (pmC pm0)).r.perm (pmC pm0)).r
    refine d_back hK10 ?_
    refine d_one (i := 7) (listed' := #[true, true, true, true, true, true, true, true, false, false, false]) (by rfl) (by kernel_rfl) (by rfl) ?_
    refine s_append Try.underlying22 I33 rfl (by decide) (by decide) rfl rfl hSb (hO9.perm (pmC (pmC (pmC pm0)))) (litRd eS_len (m := 1) rfl (by decide) hO9).cs rfl (by simp [fl, eS, slv, Value.oneCell']) (mk := _) rfl (by omega) ?_
    intro a27 c27 Sb2 w11 hSb2 hO11' e11'
    have hO11 := hO11'.perm (List.Perm.symm (pmC (pmC (pmC pm0)))); have e11 := e11'.permB (pmC (pmC (pmC pm0))) (List.Perm.symm (pmC (pmC (pmC pm0)))); clear hO11' e11'
    have hK12 : Kept w4 _ _ w11 := Kept.to (e5.trans (e7.trans (e9.trans e11))) ((hO11.t.t.perm (pmC pm0)).r.perm (pmC pm0)).r
    refine d_back hK12 ?_
    refine d_one (i := 8) (listed' := #[true, true, true, true, true, true, true, true, true, false, false]) (by rfl) (by kernel_rfl) (by rfl) ?_
    refine s_nilCheck rfl ?_
    refine d_tail rfl ?_
    refine d_one (i := 9) (listed' := #[true, true, true, true, true, true, true, true, true, true, false]) (by rfl) (by kernel_rfl) (by rfl) ?_
    refine s_fieldAddr Try.underlying79 rfl I22 (by decide) rfl ?_
    refine d_tail rfl ?_
    refine d_one (i := 10) (listed' := #[true, true, true, true, true, true, true, true, true, true, true]) (by rfl) (by kernel_rfl) (by rfl) ?_
    refine s_store1 (v := .slice _ _ _) (o := 0) I22 rfl rfl rfl hO11 (i := 2) rfl rfl rfl ?_
    intro w13 hO13 e13
    refine d_tail rfl ?_
    refine d_done (by kernel_rfl) ?_
    refine x_norm ?_
    refine c_next ?_
    refine c_reg ?_
    refine s_add rfl rfl (by omega) (by omega) ?_
    refine s_move (v := .int _ _) rfl ?_
    refine s_nil ?_
    obtain ⟨hO14, e14⟩ := hO13.drop1
    obtain ⟨hO15, e15⟩ := hO14.permE (pmC (pmC (pmA pm0)))
    obtain ⟨hO16, e16⟩ := hO15.permE (pmbA pmb0)
    obtain ⟨hO17, e17⟩ := hO16.permE (pmC (pmA (pmC pm0)))
    obtain ⟨hO18, e18⟩ := hO17.permE (pmbA (pmbC (pmbA pmb0)))
    obtain ⟨hOw, eOw⟩ := hO18.permE (((((bk_snoc b25 zeros256 (by rw [hgs, List.length_replicate])).symm.append_right L).append_left Sb2).cons _))
    rw [← List.replicate_succ'] at hOw eOw
    refine l_end (m' := n - (k + 1)) (by omega) ?_
    refine ⟨k + 1, _, _, gs ++ [b25], _, rfl, (by first | rfl | (simp; done) | (congr 1; omega)), rfl, rfl, rfl, rfl, by omega, by rw [List.length_append, hgs]; rfl, by rw [List.map_append, fl_app]; exact hSb2, hOw, ((e4.trans (e5.trans (e7.trans (e9.trans (e11.trans (e13.trans (e14.trans (e15.trans (e16.trans (e17.trans e18)))))))))).trans eOw)⟩
  refine s_nil ?_
  refine c_next ?_
  refine c_seq ?_
  refine c_condF rfl ?_
  refine c_exit ?_
  refine x_then ?_
  refine x_then ?_
  refine x_same ?_
  refine c_next ?_
  refine c_seq ?_
  refine c_reg ?_
  refine s_move (v := .pointer _) rfl ?_
  refine s_assign (v := .pointer _) rfl ?_
  refine s_assign (v := .int _ _) rfl ?_
  refine s_nil ?_
  refine c_next ?_
  refine c_ret ?_
  refine e_2 (v := .pointer _) (v' := .int _ _) Try.results8 rfl rfl ?_
  obtain ⟨hO19, e19⟩ := hO4.permE (pmC pm0)
  have hRb := (hSb.drop hO19).2.2
  obtain ⟨hO20, e20⟩ := hO19.dropS
  obtain rfl : k = n := by omega
  have hOk : DOk ⟨List.replicate k zeros256, [], bad, false, -1⟩ := ⟨fun b hb => by rw [List.eq_of_mem_replicate hb]; simp [zeros256], (by show (List.replicate k zeros256).length ≤ 256; rw [List.length_replicate]; omega), fun x hx => (by simp at hx), by simp, hbad, Int.le_refl (-1), (by show (-1 : Int) ≤ 9223372036854775807; decide)⟩
  obtain ⟨LF, hLF⟩ : ∃ LF, LF = ((b16, .cells #[.slice ab k cb, .slice none 0 0, .slice a' bad.length c', .bool false, .int .i64 (-1)] 79 (0, 0)) :: ([] ++ (bkH gs (List.replicate k zeros256) ++ L))) := ⟨_, rfl⟩
  have hOf : Own w4 ((b16, .cells #[.slice ab k cb, .slice none 0 0, .slice a' bad.length c', .bool false, .int .i64 (-1)] 79 (0, 0)) :: ([] ++ (bkH gs (List.replicate k zeros256) ++ L))) := hO20
  have hRb : Rd w4 ((b16, .cells #[.slice ab k cb, .slice none 0 0, .slice a' bad.length c', .bool false, .int .i64 (-1)] 79 (0, 0)) :: ([] ++ (bkH gs (List.replicate k zeros256) ++ L))) ab (fl eS (gs.map slv)) := hRb
  have hRx : Rd w4 ((b16, .cells #[.slice ab k cb, .slice none 0 0, .slice a' bad.length c', .bool false, .int .i64 (-1)] 79 (0, 0)) :: ([] ++ (bkH gs (List.replicate k zeros256) ++ L))) a' (fl eI bad) := (hRx.ext (e4.trans (e19.trans e20)))
  have hEf : Ext _ _ w4 ((b16, .cells #[.slice ab k cb, .slice none 0 0, .slice a' bad.length c', .bool false, .int .i64 (-1)] 79 (0, 0)) :: ([] ++ (bkH gs (List.replicate k zeros256) ++ L))) := (e1.trans (e2.trans (e3.trans (e4.trans (e19.trans e20)))))
  rw [← hLF] at hOf hRb hRx hEf
  exact ⟨b16, gs, LF, rfl, ⟨ab, cb, none, 0, a', c', [], [], by rw [List.length_replicate]; exact hLF, hOk, by rw [List.length_replicate]; exact hgs, hRb, OwnSl.nil _ _, RdAll.nil _ _, hRx⟩, hOf, hEf⟩

theorem disk_Blocks' (p : Nat) (d : DS) (gs : List Nat) (F : Hp) (w : World) (L : Hp) (hD : DiskAt w L p d gs F) (hO : Own w L) : Calls Try.prog 31 #[.pointer (some ⟨p, 0, none⟩)] w fun en w' => en = .returned (.int .i64 (d.bl.length : Int)) ∧ Own w' L ∧ Ext w L w' L := by
  obtain ⟨bl, wt, bad, down, left⟩ := d
  obtain ⟨ab, cb, aw, cw, ax, cx, vw, Sw, rfl, hok, hgs, hRb, hSw, hRw, hRx⟩ := hD
  exact disk_Blocks _ _ _ _ _ _ _ _ _ _ hO
end Go.Proofs.Ytpjojocckoobeaa
