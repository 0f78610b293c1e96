/- A part of the proof that the row of the law holds of the program as translated: lemmas and contracts of its functions. -/
import Derived.Test.YtpjojocckoobeaaProg
import Derived.Test.YtpjojocckoobeaaDisk
import Derived.Test.YtpjojocckoobeaaRread
set_option linter.unusedVariables false
set_option linter.unusedSimpArgs false
set_option maxRecDepth 10000
namespace Go.Proofs.Ytpjojocckoobeaa
open Go.GV Go.RowKit
attribute [local irreducible] wpList
theorem I26 : TI Try.prog 26 (.pointer none) 1 8 := by unfold TI; kernel_rfl
theorem I81 : TI Try.prog 81 (.agg #[(.pointer none), (.int .i64 0), (.int .i64 0)]) 3 24 := by unfold TI; kernel_rfl
theorem pl81 : PL Try.prog 81 #[(0, 1), (1, 1), (2, 1)] := ⟨_, Try.underlying81, fun w => by kernel_rfl⟩
theorem cf31 : ∀ (args : Array Value) (w : World), (callFunc 31 args).run Try.prog w = .ok (.enter 31 args) w := cf_of Try.func31 (by kernel_rfl) rfl
theorem cf32 : ∀ (args : Array Value) (w : World), (callFunc 32 args).run Try.prog w = .ok (.enter 32 args) w := cf_of Try.func32 (by kernel_rfl) rfl
theorem cf33 : ∀ (args : Array Value) (w : World), (callFunc 33 args).run Try.prog w = .ok (.enter 33 args) w := cf_of Try.func33 (by kernel_rfl) rfl
theorem cf34 : ∀ (args : Array Value) (w : World), (callFunc 34 args).run Try.prog w = .ok (.enter 34 args) w := cf_of Try.func34 (by kernel_rfl) rfl
theorem cf35 : ∀ (args : Array Value) (w : World), (callFunc 35 args).run Try.prog w = .ok (.enter 35 args) w := cf_of Try.func35 (by kernel_rfl) rfl
theorem cf36 : ∀ (args : Array Value) (w : World), (callFunc 36 args).run Try.prog w = .ok (.enter 36 args) w := cf_of Try.func36 (by kernel_rfl) rfl
theorem cf42 : ∀ (args : Array Value) (w : World), (callFunc 42 args).run Try.prog w = .ok (.enter 42 args) w := cf_of Try.func42 (by kernel_rfl) rfl
theorem cf45 : ∀ (args : Array Value) (w : World), (callFunc 45 args).run Try.prog w = .ok (.enter 45 args) w := cf_of Try.func45 (by kernel_rfl) rfl


/-! the journal -/
def JAt (w : World) (L : Hp) (j p fr n : Nat) : Prop := Rd w L (some ⟨j, 0, none⟩) [.pointer (some ⟨p, 0, none⟩), .int .i64 (fr : Int), .int .i64 (n : Int)]
theorem JAt.rd {w : World} {L : Hp} {j p fr n : Nat} (h : JAt w L j p fr n) : Rd w L (some ⟨j, 0, none⟩) [.pointer (some ⟨p, 0, none⟩), .int .i64 (fr : Int), .int .i64 (n : Int)] := h
def DS.lay (d : DS) (i : Int) (bs : List UInt8) : DS × Nat := if (d.write i bs).2 ≠ 0 then d.write i bs else (d.write i bs).1.sync
def DS.clean (d : DS) (i : Int) : DS × Nat := if (d.rdB i).getD 255 0 ≠ 0 then d.lay i (marked (d.rdB i) false) else (d, 0)
def DS.lay2 (d : DS) (i : Int) (b : List UInt8) : DS × Nat := if (d.lay i b).2 ≠ 0 then d.lay i b else (d.lay i b).1.lay i (marked b true)
def DS.append (d : DS) (fr n : Nat) (gen no : Int) (data : List UInt8) : DS × Nat :=
  if ¬ (0 ≤ no ∧ no < n) then (d, 18) else if mkE gen no data ≠ 0 then (d, mkE gen no data) else
  if d.rdE (fr + no) ≠ 0 then (d, d.rdE (fr + no)) else
  if (d.clean (fr + no)).2 ≠ 0 then d.clean (fr + no) else (d.clean (fr + no)).1.lay2 (fr + no) (mkB gen no data)
noncomputable def DS.scan (d : DS) (fr : Nat) (gen : Int) : Nat → Nat → List (List UInt8) → List (List UInt8) × Nat
  | 0, _, acc => (acc, 0)
  | k + 1, i, acc => if d.rdE (fr + i) ≠ 0 then ([], d.rdE (fr + i)) else if (recRead (d.rdB (fr + i))).2 = 21 then ([], 21) else
    if (recRead (d.rdB (fr + i))).2 ≠ 0 ∨ ((recRead (d.rdB (fr + i))).1.gen : Int) ≠ gen ∨ ((recRead (d.rdB (fr + i))).1.no : Int) ≠ (i : Int) then (acc, 0) else d.scan fr gen k (i + 1) (acc ++ [(recRead (d.rdB (fr + i))).1.data])
theorem DS.write_wt {d : DS} {i : Int} {bs : List UInt8} (h : (d.write i bs).2 ≠ 0) : (d.write i bs).1.wt = d.wt := by
  unfold DS.write at h ⊢
  repeat' split at h
  all_goals simp_all [DS.gone]
theorem DS.lay_wt {d : DS} {i : Int} {bs : List UInt8} (h : (d.lay i bs).2 = 0) : (d.lay i bs).1.wt = [] := by
  unfold DS.lay at h ⊢
  split at h
  · exact absurd h (by assumption)
  · rename_i h0
    rw [if_neg h0]
    unfold DS.sync at h ⊢
    repeat' split at h
    all_goals simp_all
theorem DS.append_18 {d : DS} {fr n : Nat} {gen no : Int} {data : List UInt8} (h : ¬ (0 ≤ no ∧ no < n)) : d.append fr n gen no data = (d, 18) := if_pos h
theorem DS.append_mk {d : DS} {fr n : Nat} {gen no : Int} {data : List UInt8} (h : 0 ≤ no ∧ no < n) (h1 : mkE gen no data ≠ 0) : d.append fr n gen no data = (d, mkE gen no data) := (if_neg (fun q => q h)).trans (if_pos h1)
theorem DS.append_rd {d : DS} {fr n : Nat} {gen no : Int} {data : List UInt8} (h : 0 ≤ no ∧ no < n) (h1 : mkE gen no data = 0) (h2 : d.rdE (fr + no) ≠ 0) : d.append fr n gen no data = (d, d.rdE (fr + no)) := (if_neg (fun q => q h)).trans ((if_neg (fun q => q h1)).trans (if_pos h2))
theorem DS.append_cl {d : DS} {fr n : Nat} {gen no : Int} {data : List UInt8} (h : 0 ≤ no ∧ no < n) (h1 : mkE gen no data = 0) (h2 : d.rdE (fr + no) = 0) (h3 : (d.clean (fr + no)).2 ≠ 0) : d.append fr n gen no data = d.clean (fr + no) :=
  (if_neg (fun q => q h)).trans ((if_neg (fun q => q h1)).trans ((if_neg (fun q => q h2)).trans (if_pos h3)))
theorem DS.append_ok {d : DS} {fr n : Nat} {gen no : Int} {data : List UInt8} (h : 0 ≤ no ∧ no < n) (h1 : mkE gen no data = 0) (h2 : d.rdE (fr + no) = 0) (h3 : (d.clean (fr + no)).2 = 0) : d.append fr n gen no data = (d.clean (fr + no)).1.lay2 (fr + no) (mkB gen no data) :=
  (if_neg (fun q => q h)).trans ((if_neg (fun q => q h1)).trans ((if_neg (fun q => q h2)).trans (if_neg (fun q => q h3))))
theorem DS.scan_0 {d : DS} {fr i : Nat} {gen : Int} {acc : List (List UInt8)} : d.scan fr gen 0 i acc = (acc, 0) := rfl
theorem DS.scan_rd {d : DS} {fr k i : Nat} {gen : Int} {acc : List (List UInt8)} (h : d.rdE (fr + i) ≠ 0) : d.scan fr gen (k + 1) i acc = ([], d.rdE (fr + i)) := if_pos h
theorem DS.scan_21 {d : DS} {fr k i : Nat} {gen : Int} {acc : List (List UInt8)} (h : d.rdE (fr + i) = 0) (h1 : (recRead (d.rdB (fr + i))).2 = 21) : d.scan fr gen (k + 1) i acc = ([], 21) := (if_neg (fun q => q h)).trans (if_pos h1)
theorem DS.scan_end {d : DS} {fr k i : Nat} {gen : Int} {acc : List (List UInt8)} (h : d.rdE (fr + i) = 0) (h1 : (recRead (d.rdB (fr + i))).2 ≠ 21) (h2 : (recRead (d.rdB (fr + i))).2 ≠ 0 ∨ ((recRead (d.rdB (fr + i))).1.gen : Int) ≠ gen ∨ ((recRead (d.rdB (fr + i))).1.no : Int) ≠ (i : Int)) : d.scan fr gen (k + 1) i acc = (acc, 0) :=
  (if_neg (fun q => q h)).trans ((if_neg h1).trans (if_pos h2))
theorem DS.scan_go {d : DS} {fr k i : Nat} {gen : Int} {acc : List (List UInt8)} (h : d.rdE (fr + i) = 0) (h1 : (recRead (d.rdB (fr + i))).2 ≠ 21) (h2 : ¬ ((recRead (d.rdB (fr + i))).2 ≠ 0 ∨ ((recRead (d.rdB (fr + i))).1.gen : Int) ≠ gen ∨ ((recRead (d.rdB (fr + i))).1.no : Int) ≠ (i : Int))) :
    d.scan fr gen (k + 1) i acc = d.scan fr gen k (i + 1) (acc ++ [(recRead (d.rdB (fr + i))).1.data]) := (if_neg (fun q => q h)).trans ((if_neg h1).trans (if_neg h2))
theorem DiskAt.cast {w : World} {L : Hp} {p : Nat} {d d' : DS} {gs : List Nat} {F : Hp} (h : DiskAt w L p d gs F) (e : d' = d) : DiskAt w L p d' gs F := e ▸ h
theorem DS.look_len {d : DS} (h : DOk d) {i : Int} (hi : d.has i) : (d.look i.toNat).length = 256 := by
  obtain ⟨h1, h2⟩ := hi
  unfold DS.look lastW
  cases h3 : d.wt.reverse.find? (fun x => x.1 == i.toNat) with
  | none =>
    have h4 : i.toNat < d.bl.length := by omega
    simp only [Option.map_none, Option.getD_none, List.getD_eq_getElem?_getD, List.getElem?_eq_getElem h4, Option.getD_some]
    exact h.len _ (List.getElem_mem h4)
  | some x =>
    have h4 := List.mem_of_find?_eq_some h3
    exact (h.wts x (by simpa using h4)).2
theorem DS.rdB_len {d : DS} (h : DOk d) {i : Int} (hi : d.rdE i = 0) : (d.rdB i).length = 256 := by
  unfold DS.rdE at hi
  unfold DS.rdB
  split at hi
  · omega
  · rename_i h0
    split at hi
    · rename_i h1
      rw [if_neg h0, if_pos h1]
      exact DS.look_len h h1
    · omega


theorem journal_New (p : Nat) (d : DS) (gs : List Nat) (F : Hp) (fr n : Nat) (w : World) (L : Hp) (hD : DiskAt w L p d gs F) (h1 : 1 ≤ n) (h2 : fr + n ≤ d.bl.length) (hO : Own w L) :
    Calls Try.prog 9 #[.pointer (some ⟨p, 0, none⟩), .int .i64 (fr : Int), .int .i64 (n : Int)] w fun en w' => ∃ j, en = .returned (.tuple #[.pointer (some ⟨j, 0, none⟩), .int .i64 0]) ∧ JAt w' L j p fr n ∧ Own w' L ∧ Ext w L w' L := by
  have hbl := hD.most
  refine enter (n := 33) _ Try.func9 rfl Try.ntmps9 (by simp) ?_
  refine c_seq ?_
  refine c_reg ?_
  refine s_assign (v := .pointer _) rfl ?_
  refine s_assign (v := .int _ _) rfl ?_
  refine s_nil ?_
  refine c_next ?_
  refine c_seq ?_
  refine c_seq ?_
  refine c_reg ?_
  refine s_move (v := .int _ _) rfl ?_
  refine c_lss rfl rfl (fun h9 => ?_) (fun h9 => ?_)
  · exfalso; omega
  refine s_move (v := .bool _) rfl ?_
  refine g_do 10 (by rfl) (by rfl) ?_
  refine s_move (v := .int _ _) rfl ?_
  refine g_do 10 (by rfl) (by rfl) ?_
  refine c_lss rfl rfl (fun h12 => ?_) (fun h12 => ?_)
  · exfalso; omega
  refine s_pickF (v := .bool _) rfl rfl ?_
  refine s_move (v := .bool _) rfl ?_
  refine g_do 14 (by rfl) (by rfl) ?_
  refine s_move (v := .int _ _) rfl ?_
  refine g_do 14 (by rfl) (by rfl) ?_
  refine s_move (v := .pointer _) rfl ?_
  refine g_do 14 (by rfl) (by rfl) ?_
  refine s_call cf31 rfl (disk_Blocks' p d gs F _ _ hD hO) ?_
  rintro er17 w1 ⟨rfl, hO1, e1⟩
  refine ⟨_, rfl, ?_⟩
  refine g_do 14 (by rfl) (by rfl) ?_
  refine c_gtr rfl rfl (fun h18 => ?_) (fun h18 => ?_)
  · exfalso; omega
  refine s_pickF (v := .bool _) rfl rfl ?_
  refine s_move (v := .bool _) rfl ?_
  refine g_do 20 (by rfl) (by rfl) ?_
  refine s_move (v := .int _ _) rfl ?_
  refine g_do 20 (by rfl) (by rfl) ?_
  refine s_move (v := .pointer _) rfl ?_
  refine g_do 20 (by rfl) (by rfl) ?_
  refine s_call cf31 rfl (disk_Blocks' p d gs F _ _ (hD.ext e1) hO1) ?_
  rintro er23 w2 ⟨rfl, hO2, e2⟩
  refine ⟨_, rfl, ?_⟩
  refine g_do 20 (by rfl) (by rfl) ?_
  refine s_move (v := .int _ _) rfl ?_
  refine g_do 20 (by rfl) (by rfl) ?_
  refine s_sub rfl rfl (by omega) (by omega) ?_
  refine g_do 20 (by rfl) (by rfl) ?_
  refine c_gtr rfl rfl (fun h26 => ?_) (fun h26 => ?_)
  · exfalso; omega
  refine s_pickF (v := .bool _) rfl rfl ?_
  refine s_nil ?_
  refine c_next ?_
  refine c_condF rfl ?_
  refine c_skip ?_
  refine c_next ?_
  refine c_seq ?_
  refine c_reg ?_
  refine s_move (v := .pointer _) rfl ?_
  refine s_move (v := .int _ _) rfl ?_
  refine s_move (v := .int _ _) rfl ?_
  refine s_build (vs := [(0, _), (1, _), (2, _)]) (cells := #[_, _, _]) I81 pl81 rfl rfl ?_
  refine s_box (v := .agg _) rfl hO2 ?_
  intro b32 w3 hz32 hl32 hO3 e3
  refine s_assign (v := .pointer _) rfl ?_
  refine s_assign (v := .int _ _) rfl ?_
  refine s_nil ?_
  refine c_next ?_
  refine c_ret ?_
  refine e_2 (v := .pointer _) (v' := .int _ _) Try.results9 rfl rfl ?_
  have hJ := boxRd hO3
  obtain ⟨hO4, e4⟩ := hO3.drop1
  exact ⟨b32, rfl, hJ, hO4, (e1.trans (e2.trans (e3.trans e4)))⟩

theorem journal_lay (p : Nat) (d : DS) (gs : List Nat) (F : Hp) (j fr n : Nat) (w : World) (L : Hp) (hD : DiskAt w L p d gs F) (hJ : JAt w L j p fr n) (hfr : fr ≤ 1000000) (hnn : n ≤ 1000000) (hO : Own w L) (i : Nat) (hi : i ≤ 1000000) (a : Option Addr) (c : Nat) (bs : List UInt8) (mb : Nat) (hbm : bs.length = mb) (hR : Rd w L a (fl eB bs)) (hbs : mb ≤ 1000000000000) (hwl : d.wt.length < 1000000) :
    Calls Try.prog 34 #[.pointer (some ⟨j, 0, none⟩), .int .i64 (i : Int), .slice a mb c] w fun en w' => ∃ L', en = .returned (.int .i64 ((d.lay (fr + i) bs).2 : Int)) ∧ DiskAt w' L' p (d.lay (fr + i) bs).1 gs F ∧ Own w' L' ∧ Ext w L w' L' := by
  subst hbm
  unfold JAt at hJ
  refine enter (n := 28) _ Try.func34 rfl Try.ntmps34 (by simp) ?_
  refine c_seq ?_
  refine c_reg ?_
  refine s_assign (v := .int _ _) rfl ?_
  refine s_nil ?_
  refine c_next ?_
  refine c_seq ?_
  refine c_seq ?_
  refine d_startL hO (Own.nil w) 12 (by kernel_rfl) (pk_then (pk_then pk_body)) ?_
  intro hP2 wd2 hK2 hO1 e1
  refine d_take (i := 0) (listed' := #[true, false, false, false, false, false, false, false, false, false, false, false, false]) (by rfl) (by kernel_rfl) (by rfl) hP2.t rfl hK2 (fun wS hS => r_move (v := .pointer _) rfl) ?_
  refine d_take (i := 1) (listed' := #[true, true, false, false, false, false, false, false, false, false, false, false, false]) (by rfl) (by kernel_rfl) (by rfl) hP2.t rfl hK2 (fun wS hS => r_nilCheck rfl) ?_
  refine d_take (i := 2) (listed' := #[true, true, true, false, false, false, false, false, false, false, false, false, false]) (by rfl) (by kernel_rfl) (by rfl) hP2.t rfl hK2 (fun wS hS => r_fieldAddr Try.underlying81 rfl I26 (by decide) rfl) ?_
  refine d_take (i := 3) (listed' := #[true, true, true, true, false, false, false, false, false, false, false, false, false]) (by rfl) (by kernel_rfl) (by rfl) hP2.t rfl hK2 (fun wS hS => r_load1 Try.underlying26 rfl rfl (cellP (Cs.at1 (hJ.kept hS)) 0 rfl)) ?_
  refine d_take (i := 4) (listed' := #[true, true, true, true, true, false, false, false, false, false, false, false, false]) (by rfl) (by kernel_rfl) (by rfl) hP2.t rfl hK2 (fun wS hS => r_move (v := .pointer _) rfl) ?_
  refine d_take (i := 5) (listed' := #[true, true, true, true, true, true, false, false, false, false, false, false, false]) (by rfl) (by kernel_rfl) (by rfl) hP2.t rfl hK2 (fun wS hS => r_nilCheck rfl) ?_
  refine d_take (i := 6) (listed' := #[true, true, true, true, true, true, true, false, false, false, false, false, false]) (by rfl) (by kernel_rfl) (by rfl) hP2.t rfl hK2 (fun wS hS => r_fieldAddr Try.underlying81 rfl I3 (by decide) rfl) ?_
  refine d_take (i := 7) (listed' := #[true, true, true, true, true, true, true, true, false, false, false, false, false]) (by rfl) (by kernel_rfl) (by rfl) hP2.t rfl hK2 (fun wS hS => r_load1 Try.underlying3 rfl rfl (cellP (Cs.at1 (hJ.kept hS)) 1 rfl)) ?_
  refine d_take (i := 8) (listed' := #[true, true, true, true, true, true, true, true, true, false, false, false, false]) (by rfl) (by kernel_rfl) (by rfl) hP2.t rfl hK2 (fun wS hS => r_move (v := .int _ _) rfl) ?_
  refine d_take (i := 9) (listed' := #[true, true, true, true, true, true, true, true, true, true, false, false, false]) (by rfl) (by kernel_rfl) (by rfl) hP2.t rfl hK2 (fun wS hS => r_add rfl rfl (by omega) (by omega)) ?_
  refine d_take (i := 10) (listed' := #[true, true, true, true, true, true, true, true, true, true, true, false, false]) (by rfl) (by kernel_rfl) (by rfl) hP2.t rfl hK2 (fun wS hS => r_move (v := .slice _ _ _) rfl) ?_
  refine d_one (i := 11) (listed' := #[true, true, true, true, true, true, true, true, true, true, true, true, false]) (by rfl) (by kernel_rfl) (by rfl) ?_
  refine s_call cf42 rfl (disk_Write p d gs F _ _ (hD.ext e1) hO1 _ a c bs _ rfl (hR.ext e1) (by omega) hwl) ?_
  rintro er19 w3 ⟨L1, rfl, hD1, hO3, e3⟩
  refine ⟨_, rfl, ?_⟩
  have hK4 : Kept w _ _ w3 := Kept.to (e1.trans e3) (Own.nil w3)
  refine d_back hK4 ?_
  refine d_one (i := 12) (listed' := #[true, true, true, true, true, true, true, true, true, true, true, true, true]) (by rfl) (by kernel_rfl) (by rfl) ?_
  refine s_assign (v := .int _ _) rfl ?_
  refine d_tail rfl ?_
  refine d_done (by kernel_rfl) ?_
  refine c_next ?_
  refine c_seq ?_
  refine c_reg ?_
  refine s_move (v := .int _ _) rfl ?_
  refine c_neq rfl rfl (fun h21 => ?_) (fun h21 => ?_)
  · skip
    refine s_nil ?_
    refine c_next ?_
    refine c_condT rfl ?_
    refine c_seq ?_
    refine c_reg ?_
    refine s_move (v := .int _ _) rfl ?_
    refine s_assign (v := .int _ _) rfl ?_
    refine s_nil ?_
    refine c_next ?_
    refine c_ret ?_
    refine r_then ?_
    refine e_1 (v := .int _ _) Try.results34 rfl ?_
    rw [show d.lay (fr + i) bs = d.write (fr + i) bs from if_pos (by omega)]
    exact ⟨_, rfl, hD1, hO3, (e1.trans e3)⟩
  refine s_nil ?_
  refine c_next ?_
  refine c_condF rfl ?_
  refine c_skip ?_
  refine c_next ?_
  refine c_seq ?_
  refine c_reg ?_
  refine s_move (v := .pointer _) rfl ?_
  refine s_nilCheck rfl ?_
  refine s_fieldAddr Try.underlying81 rfl I26 (by decide) rfl ?_
  refine s_load1 Try.underlying26 rfl rfl (cellP (Rd.at1 (hJ.ext (e1.trans e3))) 0 rfl) ?_
  refine s_call cf45 rfl (disk_Sync p _ gs F _ _ hD1 hO3) ?_
  rintro er27 w5 ⟨L2, rfl, hD2, hO5, e5⟩
  refine ⟨_, rfl, ?_⟩
  refine s_assign (v := .int _ _) rfl ?_
  refine s_nil ?_
  refine c_next ?_
  refine c_ret ?_
  refine e_1 (v := .int _ _) Try.results34 rfl ?_
  rw [show d.lay (fr + i) bs = (d.write (fr + i) bs).1.sync from if_neg (by omega)]
  exact ⟨_, rfl, hD2, hO5, (e1.trans (e3.trans e5))⟩

theorem journal_Append (p : Nat) (d : DS) (gs : List Nat) (F : Hp) (j fr n : Nat) (w : World) (L : Hp) (hD : DiskAt w L p d gs F) (hJ : JAt w L j p fr n) (hfr : fr ≤ 1000000) (hnn : n ≤ 1000000) (hO : Own w L) (gen no : Int) (a : Option Addr) (c : Nat) (data : List UInt8) (hR : Rd w L a (fl eB data)) (hdm : data.length ≤ 1000000000000) (hwl : d.wt.length < 1000000) :
    Calls Try.prog 10 #[.pointer (some ⟨j, 0, none⟩), .int .i64 gen, .int .i64 no, .slice a data.length c] w fun en w' => ∃ L', en = .returned (.int .i64 ((d.append fr n gen no data).2 : Int)) ∧ DiskAt w' L' p (d.append fr n gen no data).1 gs F ∧ Own w' L' ∧ Ext w L w' L' := by
  unfold JAt at hJ
  have hok := hD.ok
  refine enter (n := 79) _ Try.func10 rfl Try.ntmps10 (by simp) ?_
  refine c_seq ?_
  refine c_reg ?_
  refine s_assign (v := .int _ _) rfl ?_
  refine s_nil ?_
  refine c_next ?_
  refine c_seq ?_
  refine c_seq ?_
  refine c_reg ?_
  refine s_move (v := .int _ _) rfl ?_
  refine c_lss rfl rfl (fun h15 => ?_) (fun h15 => ?_)
  · skip
    refine s_move (v := .bool _) rfl ?_
    refine g_skip 16 (by rfl) (by rfl) (by rfl) ?_
    refine g_skip 16 (by rfl) (by rfl) (by rfl) ?_
    refine g_skip 16 (by rfl) (by rfl) (by rfl) ?_
    refine g_skip 16 (by rfl) (by rfl) (by rfl) ?_
    refine g_skip 16 (by rfl) (by rfl) (by rfl) ?_
    refine g_skip 16 (by rfl) (by rfl) (by rfl) ?_
    refine s_pickT (v := .bool _) rfl rfl ?_
    refine s_nil ?_
    refine c_next ?_
    refine c_condT rfl ?_
    refine c_seq ?_
    refine c_reg ?_
    refine s_assign (v := .int _ _) rfl ?_
    refine s_nil ?_
    refine c_next ?_
    refine c_ret ?_
    refine r_then ?_
    refine e_1 (v := .int _ _) Try.results10 rfl ?_
    rw [DS.append_18 (by omega)]
    exact ⟨_, rfl, hD, hO, (Ext.refl _ _)⟩
  refine s_move (v := .bool _) rfl ?_
  refine g_do 16 (by rfl) (by rfl) ?_
  refine s_move (v := .int _ _) rfl ?_
  refine g_do 16 (by rfl) (by rfl) ?_
  refine s_move (v := .pointer _) rfl ?_
  refine g_do 16 (by rfl) (by rfl) ?_
  refine s_nilCheck rfl ?_
  refine g_do 16 (by rfl) (by rfl) ?_
  refine s_fieldAddr Try.underlying81 rfl I3 (by decide) rfl ?_
  refine g_do 16 (by rfl) (by rfl) ?_
  refine s_load1 Try.underlying3 rfl rfl (cellP (Rd.at1 hJ) 2 rfl) ?_
  refine g_do 16 (by rfl) (by rfl) ?_
  refine c_geq rfl rfl (fun h22 => ?_) (fun h22 => ?_)
  · skip
    refine s_pickF (v := .bool _) rfl rfl ?_
    refine s_nil ?_
    refine c_next ?_
    refine c_condT rfl ?_
    refine c_seq ?_
    refine c_reg ?_
    refine s_assign (v := .int _ _) rfl ?_
    refine s_nil ?_
    refine c_next ?_
    refine c_ret ?_
    refine r_then ?_
    refine e_1 (v := .int _ _) Try.results10 rfl ?_
    rw [DS.append_18 (by omega)]
    exact ⟨_, rfl, hD, hO, (Ext.refl _ _)⟩
  obtain ⟨nn, rfl⟩ : ∃ nn : Nat, no = (nn : Int) := ⟨no.toNat, by omega⟩
  have hno : 0 ≤ (nn : Int) ∧ (nn : Int) < n := ⟨by omega, by omega⟩
  refine s_pickF (v := .bool _) rfl rfl ?_
  refine s_nil ?_
  refine c_next ?_
  refine c_condF rfl ?_
  refine c_skip ?_
  refine c_next ?_
  refine c_seq ?_
  refine c_reg ?_
  refine s_move (v := .int _ _) rfl ?_
  refine s_move (v := .int _ _) rfl ?_
  refine s_move (v := .slice _ _ _) rfl ?_
  refine s_build (vs := [(0, _), (1, _), (2, _)]) (cells := #[_, _, _]) I84 pl84 rfl rfl ?_
  refine s_call cf32 rfl (record_MakeF gen (nn : Int) a c data _ rfl hdm _ _ hR hO) ?_
  rintro er29 w1 ⟨ab, cb, mb, Sb, rfl, hmb, hSb, hO1, e1⟩
  refine ⟨_, rfl, ?_⟩
  have hRb := (hSb.drop hO1).2.2
  obtain ⟨hO2, e2⟩ := hO1.dropS
  refine s_move (v := .tuple _) rfl ?_
  refine s_extract (v := .slice _ _ _) rfl rfl ?_
  refine s_extract (v := .int _ _) rfl rfl ?_
  refine s_assign (v := .slice _ _ _) rfl ?_
  refine s_assign (v := .int _ _) rfl ?_
  refine s_nil ?_
  refine c_next ?_
  refine c_seq ?_
  refine c_seq ?_
  refine c_reg ?_
  refine s_move (v := .int _ _) rfl ?_
  refine c_neq rfl rfl (fun h33 => ?_) (fun h33 => ?_)
  · skip
    have hmk : mkE gen nn data ≠ 0 := by omega
    refine s_nil ?_
    refine c_next ?_
    refine c_condT rfl ?_
    refine c_seq ?_
    refine c_reg ?_
    refine s_move (v := .int _ _) rfl ?_
    refine s_assign (v := .int _ _) rfl ?_
    refine s_nil ?_
    refine c_next ?_
    refine c_ret ?_
    refine r_then ?_
    refine e_1 (v := .int _ _) Try.results10 rfl ?_
    rw [DS.append_mk hno hmk]
    exact ⟨_, rfl, (hD.ext (e1.trans e2)), hO2, (e1.trans e2)⟩
  have hmk : mkE gen nn data = 0 := by omega
  have hmb2 : mb = 256 := by rw [← hmb, show mkB gen nn data = makeB gen.toNat (nn : Int).toNat data from if_pos hmk]; exact makeB_len (by unfold mkE at hmk; split at hmk; omega; split at hmk; omega; omega)
  refine s_nil ?_
  refine c_next ?_
  refine c_condF rfl ?_
  refine c_skip ?_
  refine c_next ?_
  refine c_seq ?_
  refine d_startK hO2 15 (by kernel_rfl) (pk_then pk_body) ?_
  intro hP4 wd4 hK4 hO3 e3
  refine d_take (i := 0) (listed' := #[true, false, false, false, false, false, false, false, false, false, false, false, false, false, false, false]) (by rfl) (by kernel_rfl) (by rfl) hP4.t rfl hK4 (fun wS hS => r_move (v := .pointer _) rfl) ?_
  refine d_take (i := 1) (listed' := #[true, true, false, false, false, false, false, false, false, false, false, false, false, false, false, false]) (by rfl) (by kernel_rfl) (by rfl) hP4.t rfl hK4 (fun wS hS => r_nilCheck rfl) ?_
  refine d_take (i := 2) (listed' := #[true, true, true, false, false, false, false, false, false, false, false, false, false, false, false, false]) (by rfl) (by kernel_rfl) (by rfl) hP4.t rfl hK4 (fun wS hS => r_fieldAddr Try.underlying81 rfl I26 (by decide) rfl) ?_
  refine d_take (i := 3) (listed' := #[true, true, true, true, false, false, false, false, false, false, false, false, false, false, false, false]) (by rfl) (by kernel_rfl) (by rfl) hP4.t rfl hK4 (fun wS hS => r_load1 Try.underlying26 rfl rfl (cellP (Cs.at1 ((hJ.ext (e1.trans e2)).kept hS)) 0 rfl)) ?_
  refine d_take (i := 4) (listed' := #[true, true, true, true, true, false, false, false, false, false, false, false, false, false, false, false]) (by rfl) (by kernel_rfl) (by rfl) hP4.t rfl hK4 (fun wS hS => r_move (v := .pointer _) rfl) ?_
  refine d_take (i := 5) (listed' := #[true, true, true, true, true, true, false, false, false, false, false, false, false, false, false, false]) (by rfl) (by kernel_rfl) (by rfl) hP4.t rfl hK4 (fun wS hS => r_nilCheck rfl) ?_
  refine d_take (i := 6) (listed' := #[true, true, true, true, true, true, true, false, false, false, false, false, false, false, false, false]) (by rfl) (by kernel_rfl) (by rfl) hP4.t rfl hK4 (fun wS hS => r_fieldAddr Try.underlying81 rfl I3 (by decide) rfl) ?_
  refine d_take (i := 7) (listed' := #[true, true, true, true, true, true, true, true, false, false, false, false, false, false, false, false]) (by rfl) (by kernel_rfl) (by rfl) hP4.t rfl hK4 (fun wS hS => r_load1 Try.underlying3 rfl rfl (cellP (Cs.at1 ((hJ.ext (e1.trans e2)).kept hS)) 1 rfl)) ?_
  refine d_take (i := 8) (listed' := #[true, true, true, true, true, true, true, true, true, false, false, false, false, false, false, false]) (by rfl) (by kernel_rfl) (by rfl) hP4.t rfl hK4 (fun wS hS => r_move (v := .int _ _) rfl) ?_
  refine d_take (i := 9) (listed' := #[true, true, true, true, true, true, true, true, true, true, false, false, false, false, false, false]) (by rfl) (by kernel_rfl) (by rfl) hP4.t rfl hK4 (fun wS hS => r_add rfl rfl (by omega) (by omega)) ?_
  refine d_one (i := 10) (listed' := #[true, true, true, true, true, true, true, true, true, true, true, false, false, false, false, false]) (by rfl) (by kernel_rfl) (by rfl) ?_
  refine s_call cf33 rfl (disk_Read p d gs F _ _ (hD.ext (e1.trans (e2.trans e3))) hO3 _) ?_
  rintro er46 w5 ⟨aw, cw, mw, Sw, rfl, hmw, hSw, hO5, e5⟩
  refine ⟨_, rfl, ?_⟩
  have hRw := (hSw.drop hO5).2.2
  obtain ⟨hO6, e6⟩ := hO5.dropS
  have hK7 : Kept w1 _ _ w5 := Kept.to (e3.trans (e5.trans e6)) hO6
  refine d_back hK7 ?_
  refine d_take (i := 11) (listed' := #[true, true, true, true, true, true, true, true, true, true, true, true, false, false, false, false]) (by rfl) (by kernel_rfl) (by rfl) hP4.t rfl hK7 (fun wS hS => r_move (v := .tuple _) rfl) ?_
  refine d_take (i := 12) (listed' := #[true, true, true, true, true, true, true, true, true, true, true, true, true, false, false, false]) (by rfl) (by kernel_rfl) (by rfl) hP4.t rfl hK7 (fun wS hS => r_extract (v := .slice _ _ _) rfl rfl) ?_
  refine d_take (i := 13) (listed' := #[true, true, true, true, true, true, true, true, true, true, true, true, true, true, false, false]) (by rfl) (by kernel_rfl) (by rfl) hP4.t rfl hK7 (fun wS hS => r_extract (v := .int _ _) rfl rfl) ?_
  refine d_take (i := 14) (listed' := #[true, true, true, true, true, true, true, true, true, true, true, true, true, true, true, false]) (by rfl) (by kernel_rfl) (by rfl) hP4.t rfl hK7 (fun wS hS => r_assign (v := .slice _ _ _) rfl) ?_
  refine d_one (i := 15) (listed' := #[true, true, true, true, true, true, true, true, true, true, true, true, true, true, true, true]) (by rfl) (by kernel_rfl) (by rfl) ?_
  refine s_assign (v := .int _ _) rfl ?_
  refine d_tail rfl ?_
  refine d_done (by kernel_rfl) ?_
  refine c_next ?_
  refine c_seq ?_
  refine c_seq ?_
  refine c_reg ?_
  refine s_move (v := .int _ _) rfl ?_
  refine c_neq rfl rfl (fun h50 => ?_) (fun h50 => ?_)
  · skip
    have hre : d.rdE (fr + nn) ≠ 0 := by omega
    refine s_nil ?_
    refine c_next ?_
    refine c_condT rfl ?_
    refine c_seq ?_
    refine c_reg ?_
    refine s_move (v := .int _ _) rfl ?_
    refine s_assign (v := .int _ _) rfl ?_
    refine s_nil ?_
    refine c_next ?_
    refine c_ret ?_
    refine r_then ?_
    refine e_1 (v := .int _ _) Try.results10 rfl ?_
    rw [DS.append_rd hno hmk hre]
    exact ⟨_, rfl, (hD.ext (e1.trans (e2.trans (e3.trans (e5.trans e6))))), hO6, (e1.trans (e2.trans (e3.trans (e5.trans e6))))⟩
  have hre : d.rdE (fr + nn) = 0 := by omega
  have hwl256 := DS.rdB_len hok hre
  obtain ⟨x255, hx255⟩ : ∃ x, (d.rdB (fr + nn))[255]? = some x := ⟨(d.rdB (fr + nn))[255]'(by omega), by simp⟩
  have hg255 : (d.rdB (fr + nn)).getD 255 0 = x255 := by simp [List.getD_eq_getElem?_getD, hx255]
  refine s_nil ?_
  refine c_next ?_
  refine c_condF rfl ?_
  refine c_skip ?_
  refine c_next ?_
  refine c_seq ?_
  refine c_seq ?_
  refine c_reg ?_
  refine s_move (v := .slice _ _ _) rfl ?_
  refine s_move (v := .slice _ _ _) rfl ?_
  refine s_len Try.underlying33 rfl ?_
  refine s_sub rfl rfl (by omega) (by omega) ?_
  refine s_idxE Try.underlying33 I5 rfl rfl (by omega) (by omega) (Rd.cs hRw) eB_len (by decide) (show (d.rdB (fr + nn))[((mw : Int) - 1).toNat]? = some x255 by rw [show ((mw : Int) - 1).toNat = 255 by omega]; exact hx255) ?_
  intro p56 hp56
  refine s_load1 Try.underlying5 rfl rfl (cellP hp56 0 rfl) ?_
  refine c_neq rfl rfl (fun h58 => ?_) (fun h58 => ?_)
  · skip
    have hcl : d.clean (fr + nn) = d.lay (fr + nn) (marked (d.rdB (fr + nn)) false) := if_pos (by rw [hg255]; rintro rfl; exact h58 rfl)
    refine s_nil ?_
    refine c_next ?_
    refine c_condT rfl ?_
    refine c_seq ?_
    refine c_reg ?_
    refine s_move (v := .pointer _) rfl ?_
    refine s_move (v := .int _ _) rfl ?_
    refine s_move (v := .slice _ _ _) rfl ?_
    refine s_call cf35 rfl (record_Marked _ _ (d.rdB (fr + nn)) mw hmw (by omega) (by omega) false _ _ hRw hO6) ?_
    rintro er62 w8 ⟨am, cm, Sm, rfl, hSm, hO8, e8⟩
    refine ⟨_, rfl, ?_⟩
    have hRm := (hSm.drop hO8).2.2
    obtain ⟨hO9, e9⟩ := hO8.dropS
    refine s_call cf34 rfl (journal_lay p d gs F j fr n _ _ (hD.ext (e1.trans (e2.trans (e3.trans (e5.trans (e6.trans (e8.trans e9))))))) (hJ.ext (e1.trans (e2.trans (e3.trans (e5.trans (e6.trans (e8.trans e9))))))) hfr hnn hO9 nn (by omega) _ _ (marked (d.rdB (fr + nn)) false) _ (by rw [marked_len]; exact hmw) hRm (by omega) hwl) ?_
    rintro er63 w10 ⟨L63, rfl, hD63, hO10, e10⟩
    refine ⟨_, rfl, ?_⟩
    refine s_assign (v := .int _ _) rfl ?_
    refine s_nil ?_
    refine c_next ?_
    refine c_seq ?_
    refine c_reg ?_
    refine s_move (v := .int _ _) rfl ?_
    refine c_neq rfl rfl (fun h65 => ?_) (fun h65 => ?_)
    · skip
      have hc2 : (d.clean (fr + nn)).2 ≠ 0 := by rw [hcl]; omega
      refine s_nil ?_
      refine c_next ?_
      refine c_condT rfl ?_
      refine c_seq ?_
      refine c_reg ?_
      refine s_move (v := .int _ _) rfl ?_
      refine s_assign (v := .int _ _) rfl ?_
      refine s_nil ?_
      refine c_next ?_
      refine c_ret ?_
      refine r_then ?_
      refine e_1 (v := .int _ _) Try.results10 rfl ?_
      rw [DS.append_cl hno hmk hre hc2, hcl]
      exact ⟨_, rfl, hD63, hO10, (e1.trans (e2.trans (e3.trans (e5.trans (e6.trans (e8.trans (e9.trans e10)))))))⟩
    have hc2 : (d.clean (fr + nn)).2 = 0 := by rw [hcl]; omega
    have hDc := DiskAt.cast hD63 (d' := (d.clean (fr + nn)).1) (by rw [hcl])
    have hwc : (d.clean (fr + nn)).1.wt.length < 1000000 := by rw [hcl, DS.lay_wt (by rw [← hcl]; exact hc2)]; decide
    refine s_nil ?_
    refine c_next ?_
    refine c_condF rfl ?_
    refine c_skip ?_
    refine c_next ?_
    refine c_seq ?_
    refine c_seq ?_
    refine c_reg ?_
    refine s_move (v := .pointer _) rfl ?_
    refine s_move (v := .int _ _) rfl ?_
    refine s_move (v := .slice _ _ _) rfl ?_
    refine s_call cf34 rfl (journal_lay p _ gs F j fr n _ _ hDc (hJ.ext (e1.trans (e2.trans (e3.trans (e5.trans (e6.trans (e8.trans (e9.trans e10)))))))) hfr hnn hO10 nn (by omega) _ _ (mkB gen nn data) _ hmb (hRb.ext (e3.trans (e5.trans (e6.trans (e8.trans (e9.trans e10)))))) (by omega) hwc) ?_
    rintro er70 w11 ⟨L70, rfl, hD70, hO11, e11⟩
    refine ⟨_, rfl, ?_⟩
    refine s_assign (v := .int _ _) rfl ?_
    refine s_nil ?_
    refine c_next ?_
    refine c_seq ?_
    refine c_reg ?_
    refine s_move (v := .int _ _) rfl ?_
    refine c_neq rfl rfl (fun h72 => ?_) (fun h72 => ?_)
    · skip
      have hl1 : ((d.clean (fr + nn)).1.lay (fr + nn) (mkB gen nn data)).2 ≠ 0 := by omega
      refine s_nil ?_
      refine c_next ?_
      refine c_condT rfl ?_
      refine c_seq ?_
      refine c_reg ?_
      refine s_move (v := .int _ _) rfl ?_
      refine s_assign (v := .int _ _) rfl ?_
      refine s_nil ?_
      refine c_next ?_
      refine c_ret ?_
      refine r_then ?_
      refine e_1 (v := .int _ _) Try.results10 rfl ?_
      rw [DS.append_ok hno hmk hre hc2, show (d.clean (fr + nn)).1.lay2 (fr + nn) (mkB gen nn data) = _ from if_pos hl1]
      exact ⟨_, rfl, hD70, hO11, (e1.trans (e2.trans (e3.trans (e5.trans (e6.trans (e8.trans (e9.trans (e10.trans e11))))))))⟩
    have hl1 : ((d.clean (fr + nn)).1.lay (fr + nn) (mkB gen nn data)).2 = 0 := by omega
    have hwl2 : ((d.clean (fr + nn)).1.lay (fr + nn) (mkB gen nn data)).1.wt.length < 1000000 := by rw [DS.lay_wt hl1]; decide
    refine s_nil ?_
    refine c_next ?_
    refine c_condF rfl ?_
    refine c_skip ?_
    refine c_next ?_
    refine c_seq ?_
    refine c_reg ?_
    refine s_move (v := .pointer _) rfl ?_
    refine s_move (v := .int _ _) rfl ?_
    refine s_move (v := .slice _ _ _) rfl ?_
    refine s_call cf35 rfl (record_Marked _ _ (mkB gen nn data) mb hmb (by omega) (by omega) true _ _ (hRb.ext (e3.trans (e5.trans (e6.trans (e8.trans (e9.trans (e10.trans e11))))))) hO11) ?_
    rintro er77 w12 ⟨an, cn, Sn, rfl, hSn, hO12, e12⟩
    refine ⟨_, rfl, ?_⟩
    have hRn := (hSn.drop hO12).2.2
    obtain ⟨hO13, e13⟩ := hO12.dropS
    refine s_call cf34 rfl (journal_lay p _ gs F j fr n _ _ (hD70.ext (e12.trans e13)) (hJ.ext (e1.trans (e2.trans (e3.trans (e5.trans (e6.trans (e8.trans (e9.trans (e10.trans (e11.trans (e12.trans e13))))))))))) hfr hnn hO13 nn (by omega) _ _ (marked (mkB gen nn data) true) _ (by rw [marked_len]; exact hmb) hRn (by omega) hwl2) ?_
    rintro er78 w14 ⟨L78, rfl, hD78, hO14, e14⟩
    refine ⟨_, rfl, ?_⟩
    refine s_assign (v := .int _ _) rfl ?_
    refine s_nil ?_
    refine c_next ?_
    refine c_ret ?_
    refine e_1 (v := .int _ _) Try.results10 rfl ?_
    rw [DS.append_ok hno hmk hre hc2, show (d.clean (fr + nn)).1.lay2 (fr + nn) (mkB gen nn data) = _ from if_neg (fun q => q hl1)]
    exact ⟨_, rfl, hD78, hO14, (e1.trans (e2.trans (e3.trans (e5.trans (e6.trans (e8.trans (e9.trans (e10.trans (e11.trans (e12.trans (e13.trans e14)))))))))))⟩
  have hcl : d.clean (fr + nn) = (d, 0) := if_neg (by rw [hg255]; exact fun h => h (UInt8.toNat_inj.1 (by simpa using h58)))
  have hc2 : (d.clean (fr + nn)).2 = 0 := by rw [hcl]
  have hDc := DiskAt.cast (hD.ext (e1.trans (e2.trans (e3.trans (e5.trans e6))))) (d' := (d.clean (fr + nn)).1) (by rw [hcl])
  have hwc : (d.clean (fr + nn)).1.wt.length < 1000000 := by rw [hcl]; exact hwl
  refine s_nil ?_
  refine c_next ?_
  refine c_condF rfl ?_
  refine c_skip ?_
  refine c_next ?_
  refine c_seq ?_
  refine c_seq ?_
  refine c_reg ?_
  refine s_move (v := .pointer _) rfl ?_
  refine s_move (v := .int _ _) rfl ?_
  refine s_move (v := .slice _ _ _) rfl ?_
  refine s_call cf34 rfl (journal_lay p _ gs F j fr n _ _ hDc (hJ.ext (e1.trans (e2.trans (e3.trans (e5.trans e6))))) hfr hnn hO6 nn (by omega) _ _ (mkB gen nn data) _ hmb (hRb.ext (e3.trans (e5.trans e6))) (by omega) hwc) ?_
  rintro er70 w15 ⟨L70, rfl, hD70, hO15, e15⟩
  refine ⟨_, rfl, ?_⟩
  refine s_assign (v := .int _ _) rfl ?_
  refine s_nil ?_
  refine c_next ?_
  refine c_seq ?_
  refine c_reg ?_
  refine s_move (v := .int _ _) rfl ?_
  refine c_neq rfl rfl (fun h72 => ?_) (fun h72 => ?_)
  · skip
    have hl1 : ((d.clean (fr + nn)).1.lay (fr + nn) (mkB gen nn data)).2 ≠ 0 := by omega
    refine s_nil ?_
    refine c_next ?_
    refine c_condT rfl ?_
    refine c_seq ?_
    refine c_reg ?_
    refine s_move (v := .int _ _) rfl ?_
    refine s_assign (v := .int _ _) rfl ?_
    refine s_nil ?_
    refine c_next ?_
    refine c_ret ?_
    refine r_then ?_
    refine e_1 (v := .int _ _) Try.results10 rfl ?_
    rw [DS.append_ok hno hmk hre hc2, show (d.clean (fr + nn)).1.lay2 (fr + nn) (mkB gen nn data) = _ from if_pos hl1]
    exact ⟨_, rfl, hD70, hO15, (e1.trans (e2.trans (e3.trans (e5.trans (e6.trans e15)))))⟩
  have hl1 : ((d.clean (fr + nn)).1.lay (fr + nn) (mkB gen nn data)).2 = 0 := by omega
  have hwl2 : ((d.clean (fr + nn)).1.lay (fr + nn) (mkB gen nn data)).1.wt.length < 1000000 := by rw [DS.lay_wt hl1]; decide
  refine s_nil ?_
  refine c_next ?_
  refine c_condF rfl ?_
  refine c_skip ?_
  refine c_next ?_
  refine c_seq ?_
  refine c_reg ?_
  refine s_move (v := .pointer _) rfl ?_
  refine s_move (v := .int _ _) rfl ?_
  refine s_move (v := .slice _ _ _) rfl ?_
  refine s_call cf35 rfl (record_Marked _ _ (mkB gen nn data) mb hmb (by omega) (by omega) true _ _ (hRb.ext (e3.trans (e5.trans (e6.trans e15)))) hO15) ?_
  rintro er77 w16 ⟨an, cn, Sn, rfl, hSn, hO16, e16⟩
  refine ⟨_, rfl, ?_⟩
  have hRn := (hSn.drop hO16).2.2
  obtain ⟨hO17, e17⟩ := hO16.dropS
  refine s_call cf34 rfl (journal_lay p _ gs F j fr n _ _ (hD70.ext (e16.trans e17)) (hJ.ext (e1.trans (e2.trans (e3.trans (e5.trans (e6.trans (e15.trans (e16.trans e17)))))))) hfr hnn hO17 nn (by omega) _ _ (marked (mkB gen nn data) true) _ (by rw [marked_len]; exact hmb) hRn (by omega) hwl2) ?_
  rintro er78 w18 ⟨L78, rfl, hD78, hO18, e18⟩
  refine ⟨_, rfl, ?_⟩
  refine s_assign (v := .int _ _) rfl ?_
  refine s_nil ?_
  refine c_next ?_
  refine c_ret ?_
  refine e_1 (v := .int _ _) Try.results10 rfl ?_
  rw [DS.append_ok hno hmk hre hc2, show (d.clean (fr + nn)).1.lay2 (fr + nn) (mkB gen nn data) = _ from if_neg (fun q => q hl1)]
  exact ⟨_, rfl, hD78, hO18, (e1.trans (e2.trans (e3.trans (e5.trans (e6.trans (e15.trans (e16.trans (e17.trans e18))))))))⟩

theorem journal_Scan (p : Nat) (d : DS) (gs : List Nat) (F : Hp) (j fr n : Nat) (w : World) (L : Hp) (hD : DiskAt w L p d gs F) (hJ : JAt w L j p fr n) (hfr : fr ≤ 1000000) (hnn : n ≤ 1000000) (hO : Own w L) (gen : Int) : Calls Try.prog 13 #[.pointer (some ⟨j, 0, none⟩), .int .i64 gen] w fun en w' => ∃ a c m vs, en = .returned (.tuple #[.slice a m c, .int .i64 ((d.scan fr gen n 0 []).2 : Int)]) ∧ (d.scan fr gen n 0 []).1.length = m ∧ Rd w' L a (fl eS vs) ∧ RdAll w' L vs (d.scan fr gen n 0 []).1 ∧ Own w' L ∧ Ext w L w' L := by
  unfold JAt at hJ
  have hok := hD.ok
  refine enter (n := 64) _ Try.func13 rfl Try.ntmps13 (by simp) ?_
  refine c_seq ?_
  refine c_reg ?_
  refine s_assign (v := .slice _ _ _) rfl ?_
  refine s_assign (v := .int _ _) rfl ?_
  refine s_nil ?_
  refine c_next ?_
  refine c_seq ?_
  refine c_reg ?_
  refine s_assign (v := .slice _ _ _) rfl ?_
  refine s_nil ?_
  refine c_next ?_
  refine c_seq ?_
  refine c_seq ?_
  refine c_reg ?_
  refine s_move (v := .pointer _) rfl ?_
  refine s_nilCheck rfl ?_
  refine s_fieldAddr Try.underlying81 rfl I3 (by decide) rfl ?_
  refine s_load1 Try.underlying3 rfl rfl (cellP (Rd.at1 hJ) 2 rfl) ?_
  refine s_move (v := .int _ _) rfl ?_
  refine s_nil ?_
  refine c_next ?_
  refine c_block ?_
  refine c_loopL hO (fun Lc f0 m g wl => ∃ (k : Nat) (acc : List (List UInt8)) (vs : List Value) (ao : Option Addr) (co : Nat) (So : Hp), (m = n - k) ∧ (g 6 = .slice ao k co) ∧ (g 15 = .int .i64 (k : Int)) ∧ (g 0 = f0 0) ∧ (g 1 = f0 1) ∧ (g 14 = f0 14) ∧ (k ≤ n) ∧ (acc.length = k) ∧ (OwnSl 33 1 ao k co (fl eS vs) So) ∧ (RdAll wl (So ++ Lc) vs acc) ∧ (d.scan fr gen n 0 [] = d.scan fr gen (n - k) k acc) ∧ (Own wl (So ++ Lc)) ∧ (Ext w Lc wl (So ++ Lc))) (n - 0) ?_ ?_
  · refine ⟨0, [], [], none, 0, [], rfl, (by first | rfl | (simp; done)), (by first | rfl | (simp; done)), rfl, rfl, rfl, by omega, rfl, OwnSl.nil _ _, RdAll.nil _ _, rfl, hO, (Ext.refl _ _)⟩
  intro m1 g1 w1 hI1
  obtain ⟨k, acc, vs, ao, co, So, hm1, hs1_6, hs1_15, hs1_0, hs1_1, hs1_14, hk, hal, hS, hA, hsc, hO1, e1⟩ := hI1
  obtain ⟨q1, rfl⟩ := fr5 hs1_6 hs1_15 hs1_0 hs1_1 hs1_14
  clear hs1_6 hs1_15 hs1_0 hs1_1 hs1_14
  refine c_seq ?_
  refine c_reg ?_
  refine c_lss rfl rfl (fun h16 => ?_) (fun h16 => ?_)
  · skip
    refine s_nil ?_
    refine c_next ?_
    refine c_seq ?_
    refine c_condT rfl ?_
    refine c_skip ?_
    refine c_next ?_
    refine c_seq ?_
    refine c_block ?_
    refine c_seq ?_
    refine c_reg ?_
    refine s_move (v := .int _ _) rfl ?_
    refine s_assign (v := .int _ _) rfl ?_
    refine s_nil ?_
    refine c_next ?_
    refine c_seq ?_
    refine d_startL hO1 (Own.nil w1) 15 (by kernel_rfl) (pk_then (pk_block (pk_then (pk_then (pk_block (pk_then pk_body)))))) ?_
    intro hP3 wd3 hK3 hO2 e2
    refine d_take (i := 0) (listed' := #[true, false, false, false, false, false, false, false, false, false, false, false, false, false, false, false]) (by rfl) (by kernel_rfl) (by rfl) hP3.t rfl hK3 (fun wS hS => r_move (v := .pointer _) rfl) ?_
    refine d_take (i := 1) (listed' := #[true, true, false, false, false, false, false, false, false, false, false, false, false, false, false, false]) (by rfl) (by kernel_rfl) (by rfl) hP3.t rfl hK3 (fun wS hS => r_nilCheck rfl) ?_
    refine d_take (i := 2) (listed' := #[true, true, true, false, false, false, false, false, false, false, false, false, false, false, false, false]) (by rfl) (by kernel_rfl) (by rfl) hP3.t rfl hK3 (fun wS hS => r_fieldAddr Try.underlying81 rfl I26 (by decide) rfl) ?_
    refine d_take (i := 3) (listed' := #[true, true, true, true, false, false, false, false, false, false, false, false, false, false, false, false]) (by rfl) (by kernel_rfl) (by rfl) hP3.t rfl hK3 (fun wS hS => r_load1 Try.underlying26 rfl rfl (cellP (Cs.at1 ((hJ.ext e1).kept hS)) 0 rfl)) ?_
    refine d_take (i := 4) (listed' := #[true, true, true, true, true, false, false, false, false, false, false, false, false, false, false, false]) (by rfl) (by kernel_rfl) (by rfl) hP3.t rfl hK3 (fun wS hS => r_move (v := .pointer _) rfl) ?_
    refine d_take (i := 5) (listed' := #[true, true, true, true, true, true, false, false, false, false, false, false, false, false, false, false]) (by rfl) (by kernel_rfl) (by rfl) hP3.t rfl hK3 (fun wS hS => r_nilCheck rfl) ?_
    refine d_take (i := 6) (listed' := #[true, true, true, true, true, true, true, false, false, false, false, false, false, false, false, false]) (by rfl) (by kernel_rfl) (by rfl) hP3.t rfl hK3 (fun wS hS => r_fieldAddr Try.underlying81 rfl I3 (by decide) rfl) ?_
    refine d_take (i := 7) (listed' := #[true, true, true, true, true, true, true, true, false, false, false, false, false, false, false, false]) (by rfl) (by kernel_rfl) (by rfl) hP3.t rfl hK3 (fun wS hS => r_load1 Try.underlying3 rfl rfl (cellP (Cs.at1 ((hJ.ext e1).kept hS)) 1 rfl)) ?_
    refine d_take (i := 8) (listed' := #[true, true, true, true, true, true, true, true, true, false, false, false, false, false, false, false]) (by rfl) (by kernel_rfl) (by rfl) hP3.t rfl hK3 (fun wS hS => r_move (v := .int _ _) rfl) ?_
    refine d_take (i := 9) (listed' := #[true, true, true, true, true, true, true, true, true, true, false, false, false, false, false, false]) (by rfl) (by kernel_rfl) (by rfl) hP3.t rfl hK3 (fun wS hS => r_add rfl rfl (by omega) (by omega)) ?_
    refine d_one (i := 10) (listed' := #[true, true, true, true, true, true, true, true, true, true, true, false, false, false, false, false]) (by rfl) (by kernel_rfl) (by rfl) ?_
    obtain ⟨hO5, e5⟩ := hO2.dropS
    refine s_call cf33 rfl (disk_Read p d gs F _ _ (hD.ext (e1.trans (e2.trans e5))) hO5 _) ?_
    rintro er29 w4 ⟨aw, cw, mw, Sw, rfl, hmw, hSw, hO4, e4⟩
    obtain ⟨hO4l0, e4l0⟩ := Own.lend hO2 hO4 e4
    refine ⟨_, rfl, ?_⟩
    obtain ⟨hO6, e6⟩ := hO4l0.permE (pmA pm0)
    have hRw := (hSw.drop hO6).2.2
    obtain ⟨hO7, e7⟩ := hO6.dropS
    have hK8 : Kept w1 _ _ w4 := Kept.to (e2.trans (e4l0.trans (e6.trans e7))) (Own.nil w4)
    refine d_back hK8 ?_
    refine d_take (i := 11) (listed' := #[true, true, true, true, true, true, true, true, true, true, true, true, false, false, false, false]) (by rfl) (by kernel_rfl) (by rfl) hP3.t rfl hK8 (fun wS hS => r_move (v := .tuple _) rfl) ?_
    refine d_take (i := 12) (listed' := #[true, true, true, true, true, true, true, true, true, true, true, true, true, false, false, false]) (by rfl) (by kernel_rfl) (by rfl) hP3.t rfl hK8 (fun wS hS => r_extract (v := .slice _ _ _) rfl rfl) ?_
    refine d_take (i := 13) (listed' := #[true, true, true, true, true, true, true, true, true, true, true, true, true, true, false, false]) (by rfl) (by kernel_rfl) (by rfl) hP3.t rfl hK8 (fun wS hS => r_extract (v := .int _ _) rfl rfl) ?_
    refine d_take (i := 14) (listed' := #[true, true, true, true, true, true, true, true, true, true, true, true, true, true, true, false]) (by rfl) (by kernel_rfl) (by rfl) hP3.t rfl hK8 (fun wS hS => r_assign (v := .slice _ _ _) rfl) ?_
    refine d_one (i := 15) (listed' := #[true, true, true, true, true, true, true, true, true, true, true, true, true, true, true, true]) (by rfl) (by kernel_rfl) (by rfl) ?_
    refine s_assign (v := .int _ _) rfl ?_
    refine d_tail rfl ?_
    refine d_done (by kernel_rfl) ?_
    refine c_next ?_
    refine c_seq ?_
    refine c_seq ?_
    refine c_reg ?_
    refine s_move (v := .int _ _) rfl ?_
    refine c_neq rfl rfl (fun h33 => ?_) (fun h33 => ?_)
    · skip
      have hre : d.rdE (fr + k) ≠ 0 := by omega
      refine s_nil ?_
      refine c_next ?_
      refine c_condT rfl ?_
      refine c_seq ?_
      refine c_reg ?_
      refine s_move (v := .int _ _) rfl ?_
      refine s_assign (v := .slice _ _ _) rfl ?_
      refine s_assign (v := .int _ _) rfl ?_
      refine s_nil ?_
      refine c_next ?_
      refine c_ret ?_
      refine r_then ?_
      refine r_block ?_
      refine r_then ?_
      refine r_then ?_
      refine r_block ?_
      refine r_then ?_
      refine e_2 (v := .slice _ _ _) (v' := .int _ _) Try.results13 rfl rfl ?_
      have hRo := (hS.drop hO7).2.2
      obtain ⟨hO9, e9⟩ := hO7.dropS
      rw [hsc, show n - k = (n - (k + 1)) + 1 by omega, DS.scan_rd hre]
      exact ⟨none, 0, 0, [], rfl, rfl, Rd.nil _ _ _, RdAll.nil _ _, hO9, (e1.trans (e2.trans (e4l0.trans (e6.trans (e7.trans e9)))))⟩
    have hre : d.rdE (fr + k) = 0 := by omega
    have hcw := hSw.le.1
    have hm256 := DS.rdB_len hok hre
    refine s_nil ?_
    refine c_next ?_
    refine c_condF rfl ?_
    refine c_skip ?_
    refine c_next ?_
    refine c_seq ?_
    refine c_reg ?_
    refine s_move (v := .slice _ _ _) rfl ?_
    obtain ⟨hO11, e11⟩ := hO7.dropS
    refine s_call cf36 rfl (record_Read _ _ (d.rdB (fr + k)) mw hmw (by omega) hcw _ _ (hRw.ext e11) hO11) ?_
    rintro er37 w10 ⟨ar, cr, Sr, rfl, hSr, hO10, e10⟩
    obtain ⟨hO10l0, e10l0⟩ := Own.lend hO7 hO10 e10
    refine ⟨_, rfl, ?_⟩
    obtain ⟨hO12, e12⟩ := hO10l0.permE (pmA pm0)
    have hRr := (hSr.drop hO12).2.2
    obtain ⟨hO13, e13⟩ := hO12.dropS
    refine s_move (v := .tuple _) rfl ?_
    refine s_extract (v := .agg _) rfl rfl ?_
    refine s_extract (v := .int _ _) rfl rfl ?_
    refine s_alloc I84 hO13 ?_
    intro b10 w14 hz10 hl10 hO14 e14
    refine s_storeN I84 rfl rfl rfl hO14 (i := 0) rfl (Nat.le_of_ble_eq_true rfl) (List.all_eq_true.1 rfl) ?_
    intro w15 hO15 e15
    refine s_assign (v := .int _ _) rfl ?_
    refine s_nil ?_
    refine c_next ?_
    refine c_seq ?_
    refine c_seq ?_
    refine c_reg ?_
    refine s_move (v := .int _ _) rfl ?_
    refine c_eql rfl rfl (fun h41 => ?_) (fun h41 => ?_)
    · skip
      have hr21 : (recRead (d.rdB (fr + k))).2 = 21 := by omega
      refine s_nil ?_
      refine c_next ?_
      refine c_condT rfl ?_
      refine c_seq ?_
      refine c_reg ?_
      refine s_move (v := .int _ _) rfl ?_
      refine s_assign (v := .slice _ _ _) rfl ?_
      refine s_assign (v := .int _ _) rfl ?_
      refine s_nil ?_
      refine c_next ?_
      refine c_ret ?_
      refine r_then ?_
      refine r_block ?_
      refine r_then ?_
      refine r_then ?_
      refine r_block ?_
      refine r_then ?_
      refine e_2 (v := .slice _ _ _) (v' := .int _ _) Try.results13 rfl rfl ?_
      obtain ⟨hO16, e16⟩ := hO15.drop1
      have hRo := (hS.drop hO16).2.2
      obtain ⟨hO17, e17⟩ := hO16.dropS
      rw [hsc, show n - k = (n - (k + 1)) + 1 by omega, DS.scan_21 hre hr21, hr21]
      exact ⟨none, 0, 0, [], rfl, rfl, Rd.nil _ _ _, RdAll.nil _ _, hO17, (e1.trans (e2.trans (e4l0.trans (e6.trans (e7.trans (e10l0.trans (e12.trans (e13.trans (e14.trans (e15.trans (e16.trans e17)))))))))))⟩
    have hr21 : (recRead (d.rdB (fr + k))).2 ≠ 21 := by omega
    refine s_nil ?_
    refine c_next ?_
    refine c_condF rfl ?_
    refine c_skip ?_
    refine c_next ?_
    refine c_seq ?_
    refine c_seq ?_
    refine c_reg ?_
    refine s_move (v := .int _ _) rfl ?_
    refine c_neq rfl rfl (fun h44 => ?_) (fun h44 => ?_)
    · skip
      refine s_move (v := .bool _) rfl ?_
      refine g_skip 45 (by rfl) (by rfl) (by rfl) ?_
      refine g_skip 45 (by rfl) (by rfl) (by rfl) ?_
      refine g_skip 45 (by rfl) (by rfl) (by rfl) ?_
      refine g_skip 45 (by rfl) (by rfl) (by rfl) ?_
      refine s_pickT (v := .bool _) rfl rfl ?_
      refine s_move (v := .bool _) rfl ?_
      refine g_skip 51 (by rfl) (by rfl) (by rfl) ?_
      refine g_skip 51 (by rfl) (by rfl) (by rfl) ?_
      refine g_skip 51 (by rfl) (by rfl) (by rfl) ?_
      refine g_skip 51 (by rfl) (by rfl) (by rfl) ?_
      refine s_pickT (v := .bool _) rfl rfl ?_
      refine s_nil ?_
      refine c_next ?_
      refine c_condT rfl ?_
      refine c_exit ?_
      refine x_then ?_
      refine x_other (by decide) ?_
      refine x_then ?_
      refine x_then ?_
      refine x_same ?_
      refine c_next ?_
      refine c_seq ?_
      refine c_reg ?_
      refine s_move (v := .slice _ _ _) rfl ?_
      refine s_assign (v := .slice _ _ _) rfl ?_
      refine s_assign (v := .int _ _) rfl ?_
      refine s_nil ?_
      refine c_next ?_
      refine c_ret ?_
      refine e_2 (v := .slice _ _ _) (v' := .int _ _) Try.results13 rfl rfl ?_
      obtain ⟨hO18, e18⟩ := hO15.drop1
      have hRo := (hS.drop hO18).2.2
      obtain ⟨hO19, e19⟩ := hO18.dropS
      rw [hsc, show n - k = (n - (k + 1)) + 1 by omega, DS.scan_end hre hr21 (by left; omega)]
      exact ⟨ao, co, k, vs, rfl, hal, hRo, (hA.ext (e2.trans (e4l0.trans (e6.trans (e7.trans (e10l0.trans (e12.trans (e13.trans (e14.trans (e15.trans (e18.trans e19))))))))))), hO19, (e1.trans (e2.trans (e4l0.trans (e6.trans (e7.trans (e10l0.trans (e12.trans (e13.trans (e14.trans (e15.trans (e18.trans e19)))))))))))⟩
    refine s_move (v := .bool _) rfl ?_
    refine g_do 45 (by rfl) (by rfl) ?_
    refine s_fieldAddr Try.underlying84 rfl I3 (by decide) rfl ?_
    refine g_do 45 (by rfl) (by rfl) ?_
    refine s_load1 Try.underlying3 rfl rfl (cellB (hO15.get (i := 0) rfl) rfl rfl) ?_
    refine g_do 45 (by rfl) (by rfl) ?_
    refine s_move (v := .int _ _) rfl ?_
    refine g_do 45 (by rfl) (by rfl) ?_
    refine c_neq rfl rfl (fun h49 => ?_) (fun h49 => ?_)
    · skip
      refine s_pickF (v := .bool _) rfl rfl ?_
      refine s_move (v := .bool _) rfl ?_
      refine g_skip 51 (by rfl) (by rfl) (by rfl) ?_
      refine g_skip 51 (by rfl) (by rfl) (by rfl) ?_
      refine g_skip 51 (by rfl) (by rfl) (by rfl) ?_
      refine g_skip 51 (by rfl) (by rfl) (by rfl) ?_
      refine s_pickT (v := .bool _) rfl rfl ?_
      refine s_nil ?_
      refine c_next ?_
      refine c_condT rfl ?_
      refine c_exit ?_
      refine x_then ?_
      refine x_other (by decide) ?_
      refine x_then ?_
      refine x_then ?_
      refine x_same ?_
      refine c_next ?_
      refine c_seq ?_
      refine c_reg ?_
      refine s_move (v := .slice _ _ _) rfl ?_
      refine s_assign (v := .slice _ _ _) rfl ?_
      refine s_assign (v := .int _ _) rfl ?_
      refine s_nil ?_
      refine c_next ?_
      refine c_ret ?_
      refine e_2 (v := .slice _ _ _) (v' := .int _ _) Try.results13 rfl rfl ?_
      obtain ⟨hO20, e20⟩ := hO15.drop1
      have hRo := (hS.drop hO20).2.2
      obtain ⟨hO21, e21⟩ := hO20.dropS
      rw [hsc, show n - k = (n - (k + 1)) + 1 by omega, DS.scan_end hre hr21 (by right; left; omega)]
      exact ⟨ao, co, k, vs, rfl, hal, hRo, (hA.ext (e2.trans (e4l0.trans (e6.trans (e7.trans (e10l0.trans (e12.trans (e13.trans (e14.trans (e15.trans (e20.trans e21))))))))))), hO21, (e1.trans (e2.trans (e4l0.trans (e6.trans (e7.trans (e10l0.trans (e12.trans (e13.trans (e14.trans (e15.trans (e20.trans e21)))))))))))⟩
    refine s_pickF (v := .bool _) rfl rfl ?_
    refine s_move (v := .bool _) rfl ?_
    refine g_do 51 (by rfl) (by rfl) ?_
    refine s_fieldAddr Try.underlying84 rfl I3 (by decide) rfl ?_
    refine g_do 51 (by rfl) (by rfl) ?_
    refine s_load1 Try.underlying3 rfl rfl (cellB (hO15.get (i := 0) rfl) rfl rfl) ?_
    refine g_do 51 (by rfl) (by rfl) ?_
    refine s_move (v := .int _ _) rfl ?_
    refine g_do 51 (by rfl) (by rfl) ?_
    refine c_neq rfl rfl (fun h55 => ?_) (fun h55 => ?_)
    · skip
      refine s_pickF (v := .bool _) rfl rfl ?_
      refine s_nil ?_
      refine c_next ?_
      refine c_condT rfl ?_
      refine c_exit ?_
      refine x_then ?_
      refine x_other (by decide) ?_
      refine x_then ?_
      refine x_then ?_
      refine x_same ?_
      refine c_next ?_
      refine c_seq ?_
      refine c_reg ?_
      refine s_move (v := .slice _ _ _) rfl ?_
      refine s_assign (v := .slice _ _ _) rfl ?_
      refine s_assign (v := .int _ _) rfl ?_
      refine s_nil ?_
      refine c_next ?_
      refine c_ret ?_
      refine e_2 (v := .slice _ _ _) (v' := .int _ _) Try.results13 rfl rfl ?_
      obtain ⟨hO22, e22⟩ := hO15.drop1
      have hRo := (hS.drop hO22).2.2
      obtain ⟨hO23, e23⟩ := hO22.dropS
      rw [hsc, show n - k = (n - (k + 1)) + 1 by omega, DS.scan_end hre hr21 (by right; right; omega)]
      exact ⟨ao, co, k, vs, rfl, hal, hRo, (hA.ext (e2.trans (e4l0.trans (e6.trans (e7.trans (e10l0.trans (e12.trans (e13.trans (e14.trans (e15.trans (e22.trans e23))))))))))), hO23, (e1.trans (e2.trans (e4l0.trans (e6.trans (e7.trans (e10l0.trans (e12.trans (e13.trans (e14.trans (e15.trans (e22.trans e23)))))))))))⟩
    refine s_pickF (v := .bool _) rfl rfl ?_
    refine s_nil ?_
    refine c_next ?_
    refine c_condF rfl ?_
    refine c_skip ?_
    refine c_next ?_
    refine c_reg ?_
    refine s_move (v := .slice _ _ _) rfl ?_
    refine s_fieldAddr Try.underlying84 rfl I33 (by decide) rfl ?_
    refine s_load1 Try.underlying33 rfl rfl (cellB (hO15.get (i := 0) rfl) rfl rfl) ?_
    refine s_bsE (en := eS) (xs := [.slice ar (recRead (d.rdB (fr + k))).1.data.length cr]) (vs := [.slice _ _ _]) Try.underlying22 I33 hO15 rfl rfl (by simp [Value.cells]) (by decide) rfl ?_
    intro b60 w24 hz60 hl60 hO24 e24
    refine s_append Try.underlying22 I33 rfl (by decide) (by decide) rfl rfl hS (hO24.perm (pmC (pmC pm0))) (litRd eS_len (m := 1) rfl (by decide) hO24).cs rfl (by simp [fl, eS, Value.oneCell']) (mk := _) rfl (by omega) ?_
    intro a61 c61 S61 w25 hS61 hO25' e25'
    have hO25 := hO25'.perm (List.Perm.symm (pmC (pmC pm0))); have e25 := e25'.permB (pmC (pmC pm0)) (List.Perm.symm (pmC (pmC pm0))); clear hO25' e25'
    refine s_assign (v := .slice _ _ _) rfl ?_
    refine s_nil ?_
    refine x_norm ?_
    refine c_next ?_
    refine c_reg ?_
    refine s_add rfl rfl (by omega) (by omega) ?_
    refine s_move (v := .int _ _) rfl ?_
    refine s_nil ?_
    obtain ⟨hO26, e26⟩ := hO25.drop1
    obtain ⟨hO27, e27⟩ := hO26.drop1
    refine l_end (m' := n - (k + 1)) (by omega) ?_
    refine ⟨k + 1, acc ++ [(recRead (d.rdB (fr + k))).1.data], vs ++ [.slice ar (recRead (d.rdB (fr + k))).1.data.length cr], _, _, _, rfl, (by first | rfl | (simp; done) | (congr 1; omega)), (by first | rfl | (simp; done) | (congr 1; omega)), rfl, rfl, rfl, by omega, by rw [List.length_append, hal]; rfl, by rw [fl_app]; exact hS61, RdAll.snoc (hA.ext (e2.trans (e4l0.trans (e6.trans (e7.trans (e10l0.trans (e12.trans (e13.trans (e14.trans (e15.trans (e24.trans (e25.trans (e26.trans e27))))))))))))) ⟨ar, cr, rfl, (hRr.ext (e14.trans (e15.trans (e24.trans (e25.trans (e26.trans e27)))))), hSr.le.1⟩, by rw [hsc, show n - k = (n - (k + 1)) + 1 by omega, DS.scan_go hre hr21 (by simp only [not_or, Classical.not_not]; exact ⟨by omega, by omega, by omega⟩)], hO27, (e1.trans (e2.trans (e4l0.trans (e6.trans (e7.trans (e10l0.trans (e12.trans (e13.trans (e14.trans (e15.trans (e24.trans (e25.trans (e26.trans e27)))))))))))))⟩
  refine s_nil ?_
  refine c_next ?_
  refine c_seq ?_
  refine c_condF rfl ?_
  refine c_exit ?_
  refine x_then ?_
  refine x_then ?_
  refine x_same ?_
  refine c_next ?_
  refine c_seq ?_
  refine c_reg ?_
  refine s_move (v := .slice _ _ _) rfl ?_
  refine s_assign (v := .slice _ _ _) rfl ?_
  refine s_assign (v := .int _ _) rfl ?_
  refine s_nil ?_
  refine c_next ?_
  refine c_ret ?_
  refine e_2 (v := .slice _ _ _) (v' := .int _ _) Try.results13 rfl rfl ?_
  have hRo := (hS.drop hO1).2.2
  obtain ⟨hO28, e28⟩ := hO1.dropS
  obtain rfl : k = n := by omega
  rw [hsc, Nat.sub_self, DS.scan_0]
  exact ⟨ao, co, k, vs, rfl, hal, hRo, (hA.ext e28), hO28, (e1.trans e28)⟩
end Go.Proofs.Ytpjojocckoobeaa
