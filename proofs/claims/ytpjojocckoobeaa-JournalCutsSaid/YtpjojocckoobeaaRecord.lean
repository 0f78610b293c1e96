/- A part of the proof that the row of the law holds of the program as translated: lemmas and contracts of its functions. -/
import Derived.Test.YtpjojocckoobeaaProg
import Derived.Test.YtpjojocckoobeaaLib3
import Derived.Test.YtpjojocckoobeaaT2
set_option linter.unusedVariables false
set_option linter.unusedSimpArgs false
set_option maxRecDepth 10000
namespace Go.Proofs.Ytpjojocckoobeaa
open Go.GV Go.RowKit
attribute [local irreducible] wpList
theorem cf60 : ∀ (args : Array Value) (w : World), (callFunc 60 args).run Try.prog w = .ok (.enter 60 args) w := cf_of Try.func60 (by kernel_rfl) rfl
theorem cf61 : ∀ (args : Array Value) (w : World), (callFunc 61 args).run Try.prog w = .ok (.enter 61 args) w := cf_of Try.func61 (by kernel_rfl) rfl
theorem cf62 : ∀ (args : Array Value) (w : World), (callFunc 62 args).run Try.prog w = .ok (.enter 62 args) w := cf_of Try.func62 (by kernel_rfl) rfl
theorem cf64 : ∀ (args : Array Value) (w : World), (callFunc 64 args).run Try.prog w = .ok (.enter 64 args) w := cf_of Try.func64 (by kernel_rfl) rfl
theorem cf68 : ∀ (args : Array Value) (w : World), (callFunc 68 args).run Try.prog w = .ok (.enter 68 args) w := cf_of Try.func68 (by kernel_rfl) rfl
theorem cf76 : ∀ (args : Array Value) (w : World), (callFunc 76 args).run Try.prog w = .ok (.enter 76 args) w := cf_of Try.func76 (by kernel_rfl) rfl
theorem cf80 : ∀ (args : Array Value) (w : World), (callFunc 80 args).run Try.prog w = .ok (.enter 80 args) w := cf_of Try.func80 (by kernel_rfl) rfl


def sum4 (s : Nat) : List UInt8 := [UInt8.ofNat s, UInt8.ofNat (s / 2 ^ 8), UInt8.ofNat (s / 2 ^ 16), UInt8.ofNat (s / 2 ^ 24)]
def headB (gen no : Nat) (data : List UInt8) : List UInt8 := beB 8 gen ++ beB 8 no ++ [UInt8.ofNat data.length] ++ data ++ List.replicate (251 - (17 + data.length)) 0
def makeB (gen no : Nat) (data : List UInt8) : List UInt8 := headB gen no data ++ sum4 (crcMore 0 (headB gen no data)) ++ [0]
def marked (xs : List UInt8) (is : Bool) : List UInt8 := xs.set (xs.length - 1) (if is then 1 else 0)
theorem sum4_cells (s : Nat) : [Value.int .u8 ((s % 256 : Nat) : Int), .int .u8 ((s / 2 ^ 8 % 256 : Nat) : Int), .int .u8 ((s / 2 ^ 16 % 256 : Nat) : Int), .int .u8 ((s / 2 ^ 24 % 256 : Nat) : Int)] = fl eB (sum4 s) := by
  simp [fl, eB, sum4]
theorem headB_len {gen no : Nat} {data : List UInt8} (h : data.length ≤ 234) : (headB gen no data).length = 251 := by
  simp only [headB, List.length_append, beB_len, List.length_cons, List.length_nil, List.length_replicate]
  omega
theorem makeB_len {gen no : Nat} {data : List UInt8} (h : data.length ≤ 234) : (makeB gen no data).length = 256 := by
  simp only [makeB, List.length_append, headB_len h, sum4, List.length_cons, List.length_nil]
theorem marked_len (xs : List UInt8) (is : Bool) : (marked xs is).length = xs.length := by simp [marked]
def isData (xs : List UInt8) : Bool := xs.any (fun x => x != 0)
def mkE (gen no : Int) (data : List UInt8) : Nat := if ¬ (0 ≤ gen ∧ gen < 72057594037927936 ∧ 0 ≤ no ∧ no < 72057594037927936) then 1 else if 234 < data.length then 22 else 0
def mkB (gen no : Int) (data : List UInt8) : List UInt8 := if mkE gen no data = 0 then makeB gen.toNat no.toNat data else []
structure Rec where
  gen : Nat
  no : Nat
  data : List UInt8
def recBad (xs : List UInt8) : Prop := beN (xs.take 8) ≥ 72057594037927936 ∨ beN ((xs.drop 8).take 8) ≥ 72057594037927936 ∨ (xs.getD 16 0).toNat > 234 ∨ ∃ x, x ∈ (xs.drop (17 + (xs.getD 16 0).toNat)).take (251 - (17 + (xs.getD 16 0).toNat)) ∧ x ≠ 0
open Classical in
noncomputable def recRead (xs : List UInt8) : Rec × Nat :=
  if xs.length ≠ 256 then (⟨0, 0, []⟩, 22) else if xs.getD 255 0 = 0 then (⟨0, 0, []⟩, 3) else if (xs.getD 255 0).toNat > 1 then (⟨0, 0, []⟩, 6) else
  if sum4 (crcMore 0 (xs.take 251)) ≠ (xs.drop 251).take 4 then (⟨0, 0, []⟩, 21) else if recBad xs then (⟨0, 0, []⟩, 6) else
  (⟨beN (xs.take 8), beN ((xs.drop 8).take 8), (xs.drop 17).take (xs.getD 16 0).toNat⟩, 0)
theorem beN_lt (xs : List UInt8) : beN xs < 18446744073709551616 := by
  suffices h : ∀ (xs : List UInt8) (n : Nat), n < 18446744073709551616 → xs.foldl (fun n x => (n * 2 ^ 8 % 18446744073709551616) ||| x.toNat) n < 18446744073709551616 from h xs 0 (by decide)
  intro xs
  induction xs with
  | nil => intro n h; exact h
  | cons x xs ih => intro n h; exact ih _ (beStep_lt x)


theorem record_sums (a : Option Addr) (c : Nat) (xs : List UInt8) (m : Nat) (hxm : xs.length = m) (hm : m ≤ 1000000000000) (w : World) (L : Hp) (hR : Rd w L a (fl eB xs)) (hO : Own w L) :
    Calls Try.prog 62 #[.slice a m c] w fun en w' => ∃ a' S, en = .returned (.slice a' 4 4) ∧ OwnSl 5 1 a' 4 4 (fl eB (sum4 (crcMore 0 xs))) S ∧ Own w' (S ++ L) ∧ Ext w L w' (S ++ L) := by
  subst hxm
  refine enter (n := 18) _ Try.func62 rfl Try.ntmps62 (by simp) ?_
  refine c_seq ?_
  refine c_reg ?_
  refine s_assign (v := .slice _ _ _) rfl ?_
  refine s_nil ?_
  refine c_next ?_
  refine c_seq ?_
  refine c_reg ?_
  refine s_move (v := .slice _ _ _) rfl ?_
  refine s_call cf76 rfl (crc_Sum _ _ xs hm _ _ hR hO) ?_
  rintro er5 w1 ⟨rfl, hO1, e1⟩
  refine ⟨_, rfl, ?_⟩
  have hs := crcMore_lt 0 xs
  obtain ⟨s, hse⟩ : ∃ s, s = crcMore 0 xs := ⟨_, rfl⟩
  rw [← hse] at hs ⊢
  refine s_assign (v := .int _ _) rfl ?_
  refine s_nil ?_
  refine c_next ?_
  refine c_seq ?_
  refine c_reg ?_
  refine s_move (v := .int _ _) rfl ?_
  refine s_convM (a := _) (M := 256) Try.underlying131 Try.underlying5 rfl rfl rfl ?_
  refine s_move (v := .int _ _) rfl ?_
  refine s_shrN (b := 8) rfl rfl rfl (by decide) ?_
  refine s_convM (a := _) (M := 256) Try.underlying131 Try.underlying5 rfl rfl rfl ?_
  refine s_move (v := .int _ _) rfl ?_
  refine s_shrN (b := 16) rfl rfl rfl (by decide) ?_
  refine s_convM (a := _) (M := 256) Try.underlying131 Try.underlying5 rfl rfl rfl ?_
  refine s_move (v := .int _ _) rfl ?_
  refine s_shrN (b := 24) rfl rfl rfl (by decide) ?_
  refine s_convM (a := _) (M := 256) Try.underlying131 Try.underlying5 rfl rfl rfl ?_
  refine s_bs (vs := [.int _ _, .int _ _, .int _ _, .int _ _]) Try.underlying33 I5 hO1 rfl rfl (by simp [Value.cells]) (by decide) ?_
  intro b17 w2 hz17 hl17 hO2 e2
  refine s_assign (v := .slice _ _ _) rfl ?_
  refine s_nil ?_
  refine c_next ?_
  refine c_ret ?_
  refine e_1 (v := .slice _ _ _) Try.results62 rfl ?_
  exact ⟨_, _, rfl, by rw [← sum4_cells]; exact OwnSl.lit rfl (by decide), hO2, (e1.trans e2)⟩

theorem word_Put8 (n : Nat) (hn : n < 18446744073709551616) (w : World) (L : Hp) (hO : Own w L) :
    Calls Try.prog 60 #[.int .u64 (n : Int), .int .i64 8] w fun en w' => ∃ a c S, en = .returned (.tuple #[.slice a 8 c, .int .i64 0]) ∧ OwnSl 5 1 a 8 c (fl eB (beB 8 n)) S ∧ Own w' (S ++ L) ∧ Ext w L w' (S ++ L) :=
  Calls.mono (word_Put n hn 8 w L hO) fun en w' h => by
    rw [if_pos (by omega), if_neg (by omega)] at h
    exact h

theorem record_Make (gen no : Int) (a : Option Addr) (c : Nat) (data : List UInt8) (hm : data.length ≤ 1000000000000) (w : World) (L : Hp) (hR : Rd w L a (fl eB data)) (hO : Own w L) :
    Calls Try.prog 32 #[.agg #[.int .i64 gen, .int .i64 no, .slice a data.length c]] w fun en w' =>
      (¬ (0 ≤ gen ∧ gen < 72057594037927936 ∧ 0 ≤ no ∧ no < 72057594037927936) ∧ en = .returned (.tuple #[.slice none 0 0, .int .i64 1]) ∧ Own w' L ∧ Ext w L w' L) ∨
      ((0 ≤ gen ∧ gen < 72057594037927936 ∧ 0 ≤ no ∧ no < 72057594037927936) ∧ 234 < data.length ∧ en = .returned (.tuple #[.slice none 0 0, .int .i64 22]) ∧ Own w' L ∧ Ext w L w' L) ∨
      ((0 ≤ gen ∧ gen < 72057594037927936 ∧ 0 ≤ no ∧ no < 72057594037927936) ∧ data.length ≤ 234 ∧ ∃ a' c' S, en = .returned (.tuple #[.slice a' 256 c', .int .i64 0]) ∧ OwnSl 5 1 a' 256 c' (fl eB (makeB gen.toNat no.toNat data)) S ∧ Own w' (S ++ L) ∧ Ext w L w' (S ++ L)) := by
  refine enter (n := 71) _ Try.func32 rfl Try.ntmps32 (by simp) ?_
  refine c_seq ?_
  refine c_reg ?_
  refine s_box (v := .agg _) rfl hO ?_
  intro b1 w1 hz1 hl1 hO1 e1
  refine s_assign (v := .slice _ _ _) rfl ?_
  refine s_assign (v := .int _ _) rfl ?_
  refine s_nil ?_
  refine c_next ?_
  refine c_seq ?_
  refine c_block ?_
  refine c_seq ?_
  refine c_reg ?_
  refine s_fieldAddr Try.underlying84 rfl I3 (by decide) rfl ?_
  refine s_load1 Try.underlying3 rfl rfl (cellB (hO1.get (i := 0) rfl) rfl rfl) ?_
  refine c_lss rfl rfl (fun h12 => ?_) (fun h12 => ?_)
  · skip
    refine s_move (v := .bool _) rfl ?_
    refine g_skip 13 (by rfl) (by rfl) (by rfl) ?_
    refine g_skip 13 (by rfl) (by rfl) (by rfl) ?_
    refine g_skip 13 (by rfl) (by rfl) (by rfl) ?_
    refine s_pickT (v := .bool _) rfl rfl ?_
    refine s_move (v := .bool _) rfl ?_
    refine g_skip 18 (by rfl) (by rfl) (by rfl) ?_
    refine g_skip 18 (by rfl) (by rfl) (by rfl) ?_
    refine g_skip 18 (by rfl) (by rfl) (by rfl) ?_
    refine s_pickT (v := .bool _) rfl rfl ?_
    refine s_move (v := .bool _) rfl ?_
    refine g_skip 23 (by rfl) (by rfl) (by rfl) ?_
    refine g_skip 23 (by rfl) (by rfl) (by rfl) ?_
    refine g_skip 23 (by rfl) (by rfl) (by rfl) ?_
    refine s_pickT (v := .bool _) rfl rfl ?_
    refine s_assign (v := .bool _) rfl ?_
    refine s_nil ?_
    refine c_next ?_
    refine c_condT rfl ?_
    refine c_seq ?_
    refine c_reg ?_
    refine s_assign (v := .slice _ _ _) rfl ?_
    refine s_assign (v := .int _ _) rfl ?_
    refine s_nil ?_
    refine c_next ?_
    refine c_ret ?_
    refine r_block ?_
    refine r_then ?_
    refine e_2 (v := .slice _ _ _) (v' := .int _ _) Try.results32 rfl rfl ?_
    obtain ⟨hO2, e2⟩ := hO1.drop1
    exact .inl ⟨by omega, rfl, hO2, (e1.trans e2)⟩
  refine s_move (v := .bool _) rfl ?_
  refine g_do 13 (by rfl) (by rfl) ?_
  refine s_fieldAddr Try.underlying84 rfl I3 (by decide) rfl ?_
  refine g_do 13 (by rfl) (by rfl) ?_
  refine s_load1 Try.underlying3 rfl rfl (cellB (hO1.get (i := 0) rfl) rfl rfl) ?_
  refine g_do 13 (by rfl) (by rfl) ?_
  refine c_geq rfl rfl (fun h16 => ?_) (fun h16 => ?_)
  · skip
    refine s_pickF (v := .bool _) rfl rfl ?_
    refine s_move (v := .bool _) rfl ?_
    refine g_skip 18 (by rfl) (by rfl) (by rfl) ?_
    refine g_skip 18 (by rfl) (by rfl) (by rfl) ?_
    refine g_skip 18 (by rfl) (by rfl) (by rfl) ?_
    refine s_pickT (v := .bool _) rfl rfl ?_
    refine s_move (v := .bool _) rfl ?_
    refine g_skip 23 (by rfl) (by rfl) (by rfl) ?_
    refine g_skip 23 (by rfl) (by rfl) (by rfl) ?_
    refine g_skip 23 (by rfl) (by rfl) (by rfl) ?_
    refine s_pickT (v := .bool _) rfl rfl ?_
    refine s_assign (v := .bool _) rfl ?_
    refine s_nil ?_
    refine c_next ?_
    refine c_condT rfl ?_
    refine c_seq ?_
    refine c_reg ?_
    refine s_assign (v := .slice _ _ _) rfl ?_
    refine s_assign (v := .int _ _) rfl ?_
    refine s_nil ?_
    refine c_next ?_
    refine c_ret ?_
    refine r_block ?_
    refine r_then ?_
    refine e_2 (v := .slice _ _ _) (v' := .int _ _) Try.results32 rfl rfl ?_
    obtain ⟨hO3, e3⟩ := hO1.drop1
    exact .inl ⟨by omega, rfl, hO3, (e1.trans e3)⟩
  refine s_pickF (v := .bool _) rfl rfl ?_
  refine s_move (v := .bool _) rfl ?_
  refine g_do 18 (by rfl) (by rfl) ?_
  refine s_fieldAddr Try.underlying84 rfl I3 (by decide) rfl ?_
  refine g_do 18 (by rfl) (by rfl) ?_
  refine s_load1 Try.underlying3 rfl rfl (cellB (hO1.get (i := 0) rfl) rfl rfl) ?_
  refine g_do 18 (by rfl) (by rfl) ?_
  refine c_lss rfl rfl (fun h21 => ?_) (fun h21 => ?_)
  · skip
    refine s_pickF (v := .bool _) rfl rfl ?_
    refine s_move (v := .bool _) rfl ?_
    refine g_skip 23 (by rfl) (by rfl) (by rfl) ?_
    refine g_skip 23 (by rfl) (by rfl) (by rfl) ?_
    refine g_skip 23 (by rfl) (by rfl) (by rfl) ?_
    refine s_pickT (v := .bool _) rfl rfl ?_
    refine s_assign (v := .bool _) rfl ?_
    refine s_nil ?_
    refine c_next ?_
    refine c_condT rfl ?_
    refine c_seq ?_
    refine c_reg ?_
    refine s_assign (v := .slice _ _ _) rfl ?_
    refine s_assign (v := .int _ _) rfl ?_
    refine s_nil ?_
    refine c_next ?_
    refine c_ret ?_
    refine r_block ?_
    refine r_then ?_
    refine e_2 (v := .slice _ _ _) (v' := .int _ _) Try.results32 rfl rfl ?_
    obtain ⟨hO4, e4⟩ := hO1.drop1
    exact .inl ⟨by omega, rfl, hO4, (e1.trans e4)⟩
  refine s_pickF (v := .bool _) rfl rfl ?_
  refine s_move (v := .bool _) rfl ?_
  refine g_do 23 (by rfl) (by rfl) ?_
  refine s_fieldAddr Try.underlying84 rfl I3 (by decide) rfl ?_
  refine g_do 23 (by rfl) (by rfl) ?_
  refine s_load1 Try.underlying3 rfl rfl (cellB (hO1.get (i := 0) rfl) rfl rfl) ?_
  refine g_do 23 (by rfl) (by rfl) ?_
  refine c_geq rfl rfl (fun h26 => ?_) (fun h26 => ?_)
  · skip
    refine s_pickF (v := .bool _) rfl rfl ?_
    refine s_assign (v := .bool _) rfl ?_
    refine s_nil ?_
    refine c_next ?_
    refine c_condT rfl ?_
    refine c_seq ?_
    refine c_reg ?_
    refine s_assign (v := .slice _ _ _) rfl ?_
    refine s_assign (v := .int _ _) rfl ?_
    refine s_nil ?_
    refine c_next ?_
    refine c_ret ?_
    refine r_block ?_
    refine r_then ?_
    refine e_2 (v := .slice _ _ _) (v' := .int _ _) Try.results32 rfl rfl ?_
    obtain ⟨hO5, e5⟩ := hO1.drop1
    exact .inl ⟨by omega, rfl, hO5, (e1.trans e5)⟩
  obtain ⟨gn, rfl⟩ : ∃ gn : Nat, gen = (gn : Int) := ⟨gen.toNat, by omega⟩
  obtain ⟨nn, rfl⟩ : ∃ nn : Nat, no = (nn : Int) := ⟨no.toNat, by omega⟩
  refine s_pickF (v := .bool _) rfl rfl ?_
  refine s_assign (v := .bool _) rfl ?_
  refine s_nil ?_
  refine c_next ?_
  refine c_condF rfl ?_
  refine c_seq ?_
  refine c_reg ?_
  refine s_fieldAddr Try.underlying84 rfl I33 (by decide) rfl ?_
  refine s_load1 Try.underlying33 rfl rfl (cellB (hO1.get (i := 0) rfl) rfl rfl) ?_
  refine s_len Try.underlying33 rfl ?_
  refine c_gtr rfl rfl (fun h32 => ?_) (fun h32 => ?_)
  · skip
    refine s_assign (v := .bool _) rfl ?_
    refine s_nil ?_
    refine c_next ?_
    refine c_condT rfl ?_
    refine c_seq ?_
    refine c_reg ?_
    refine s_assign (v := .slice _ _ _) rfl ?_
    refine s_assign (v := .int _ _) rfl ?_
    refine s_nil ?_
    refine c_next ?_
    refine c_ret ?_
    refine r_block ?_
    refine r_then ?_
    refine e_2 (v := .slice _ _ _) (v' := .int _ _) Try.results32 rfl rfl ?_
    obtain ⟨hO6, e6⟩ := hO1.drop1
    exact .inr (.inl ⟨by omega, by omega, rfl, hO6, (e1.trans e6)⟩)
  have hd : data.length ≤ 234 := by omega
  refine s_assign (v := .bool _) rfl ?_
  refine s_nil ?_
  refine c_next ?_
  refine c_condF rfl ?_
  refine c_skip ?_
  refine x_norm ?_
  refine c_next ?_
  refine c_seq ?_
  refine c_reg ?_
  refine s_fieldAddr Try.underlying84 rfl I3 (by decide) rfl ?_
  refine s_load1 Try.underlying3 rfl rfl (cellB (hO1.get (i := 0) rfl) rfl rfl) ?_
  refine s_convN (a := gn) (M := 18446744073709551616) Try.underlying3 Try.underlying117 rfl rfl rfl (by omega) ?_
  refine s_call cf60 rfl (word_Put8 _ (by omega) _ _ hO1) ?_
  rintro er37 w7 ⟨ap37, cp37, Sp37, rfl, hSp37, hO7, e7⟩
  refine ⟨_, rfl, ?_⟩
  refine s_move (v := .tuple _) rfl ?_
  refine s_extract (v := .slice _ _ _) rfl rfl ?_
  refine s_extract (v := .int _ _) rfl rfl ?_
  refine s_assign (v := .slice _ _ _) rfl ?_
  refine s_assign (v := .int _ _) rfl ?_
  refine s_nil ?_
  refine c_next ?_
  refine c_seq ?_
  refine c_reg ?_
  refine s_fieldAddr Try.underlying84 rfl I3 (by decide) rfl ?_
  refine s_load1 Try.underlying3 rfl rfl (cellB ((hO7.perm (pmbA pmb0)).get (i := 0) rfl) rfl rfl) ?_
  refine s_convN (a := nn) (M := 18446744073709551616) Try.underlying3 Try.underlying117 rfl rfl rfl (by omega) ?_
  refine s_call cf60 rfl (word_Put8 _ (by omega) _ _ hO7) ?_
  rintro er44 w8 ⟨ap44, cp44, Sp44, rfl, hSp44, hO8, e8⟩
  refine ⟨_, rfl, ?_⟩
  refine s_move (v := .tuple _) rfl ?_
  refine s_extract (v := .slice _ _ _) rfl rfl ?_
  refine s_extract (v := .int _ _) rfl rfl ?_
  refine s_assign (v := .slice _ _ _) rfl ?_
  refine s_assign (v := .int _ _) rfl ?_
  refine s_nil ?_
  refine c_next ?_
  refine c_seq ?_
  refine d_startK hO8 12 (by kernel_rfl) (pk_then pk_body) ?_
  intro hP10 wd10 hK10 hO9 e9
  refine d_take (i := 0) (listed' := #[true, false, false, false, false, false, false, false, false, false, false, false, false]) (by rfl) (by kernel_rfl) (by rfl) hP10.t rfl hK10 (fun wS hS => r_move (v := .slice _ _ _) rfl) ?_
  refine d_take (i := 1) (listed' := #[true, true, false, false, false, false, false, false, false, false, false, false, false]) (by rfl) (by kernel_rfl) (by rfl) hP10.t rfl hK10 (fun wS hS => r_move (v := .slice _ _ _) rfl) ?_
  refine d_take (i := 2) (listed' := #[true, true, true, false, false, false, false, false, false, false, false, false, false]) (by rfl) (by kernel_rfl) (by rfl) hP10.t rfl hK10 (fun wS hS => r_fieldAddr Try.underlying84 rfl I33 (by decide) rfl) ?_
  refine d_take (i := 3) (listed' := #[true, true, true, true, false, false, false, false, false, false, false, false, false]) (by rfl) (by kernel_rfl) (by rfl) hP10.t rfl hK10 (fun wS hS => r_load1 Try.underlying33 rfl rfl (cellB ((hS.own.perm (pmbA (pmbA pmb0))).get (i := 0) rfl) rfl rfl)) ?_
  refine d_take (i := 4) (listed' := #[true, true, true, true, true, false, false, false, false, false, false, false, false]) (by rfl) (by kernel_rfl) (by rfl) hP10.t rfl hK10 (fun wS hS => r_len Try.underlying33 rfl) ?_
  refine d_take (i := 5) (listed' := #[true, true, true, true, true, true, false, false, false, false, false, false, false]) (by rfl) (by kernel_rfl) (by rfl) hP10.t rfl hK10 (fun wS hS => r_convM (a := data.length) (M := 256) Try.underlying3 Try.underlying5 rfl rfl rfl) ?_
  refine d_take (i := 9) (listed' := #[true, true, true, true, true, true, false, false, false, true, false, false, false]) (by rfl) (by kernel_rfl) (by rfl) hP10.t rfl hK10 (fun wS hS => r_fieldAddr Try.underlying84 rfl I33 (by decide) rfl) ?_
  refine d_take (i := 10) (listed' := #[true, true, true, true, true, true, false, false, false, true, true, false, false]) (by rfl) (by kernel_rfl) (by rfl) hP10.t rfl hK10 (fun wS hS => r_load1 Try.underlying33 rfl rfl (cellB ((hS.own.perm (pmbA (pmbA pmb0))).get (i := 0) rfl) rfl rfl)) ?_
  refine d_one (i := 6) (listed' := #[true, true, true, true, true, true, true, false, false, true, true, false, false]) (by rfl) (by kernel_rfl) (by rfl) ?_
  refine s_bsE (en := eB) (xs := [UInt8.ofNat data.length]) (vs := [.int _ _]) Try.underlying33 I5 hO9 rfl rfl (by simp [Value.cells]) (by decide) (by simp [fl, eB, Value.cells]) ?_
  intro b53 w11 hz53 hl53 hO11 e11
  have hK12 : Kept w8 _ _ w11 := Kept.to (e9.trans e11) hO11.t
  refine d_back hK12 ?_
  refine d_one (i := 7) (listed' := #[true, true, true, true, true, true, true, true, false, true, true, false, false]) (by rfl) (by kernel_rfl) (by rfl) ?_
  refine s_bsE (en := eS) (xs := [.slice ap37 8 cp37, .slice ap44 8 cp44, .slice (some ⟨b53, 0, none⟩) 1 1]) (vs := [.slice _ _ _, .slice _ _ _, .slice _ _ _]) Try.underlying22 I33 hO11 rfl rfl (by simp [Value.cells]) (by decide) rfl ?_
  intro b54 w13 hz54 hl54 hO13 e13
  have hK14 : Kept w8 _ _ w13 := Kept.to (e9.trans (e11.trans e13)) hO13.t.t
  refine d_back hK14 ?_
  refine d_one (i := 8) (listed' := #[true, true, true, true, true, true, true, true, true, true, true, false, false]) (by rfl) (by kernel_rfl) (by rfl) ?_
  obtain ⟨hO16, e16⟩ := hO13.permE (pmC (pmC (pmA pm0)))
  obtain ⟨hO17, e17⟩ := hO16.permE (pmA (pmC (pmC pm0)))
  obtain ⟨hO18, e18⟩ := hO17.permE (pmbA (pmbA (pmbC pmb0)))
  obtain ⟨hO19, e19⟩ := hO18.permE (pmbC (pmbA (pmbA pmb0)))
  obtain ⟨hO20, e20⟩ := hO19.drop1
  obtain ⟨hO21, e21⟩ := hO20.drop1
  obtain ⟨hO22, e22⟩ := hO21.dropS
  obtain ⟨hO23, e23⟩ := hO22.dropS
  refine s_call cf61 rfl (concatB _ _ [.slice ap37 8 cp37, .slice ap44 8 cp44, .slice (some ⟨b53, 0, none⟩) 1 1] [beB 8 gn, beB 8 nn, [UInt8.ofNat data.length]] (by simp) 17 (by simp [beB_len]) (by decide) _ _ ((litRd eS_len (m := 3) rfl (by decide) hO19).ext ((e21.trans (e22.trans e23)))) (RdAll.cons ⟨ap37, cp37, by rw [beB_len], ((hSp37.drop hO22).2.2), by rw [beB_len]; exact hSp37.le.1⟩ (RdAll.cons ⟨ap44, cp44, by rw [beB_len], ((hSp44.drop hO21).2.2.ext (e23)), by rw [beB_len]; exact hSp44.le.1⟩ (RdAll.cons ⟨_, _, rfl, (litRd eB_len (m := 1) rfl (by decide) hO20).ext ((e22.trans e23)), Nat.le_refl 1⟩ (RdAll.nil _ _)))) hO23) ?_
  rintro er55 w15 ⟨ag, cg, Sg, rfl, hSg, hO15, e15⟩
  obtain ⟨hO15l3, e15l3⟩ := Own.lend hO22 hO15 e15
  obtain ⟨hO15l3l2, e15l3l2⟩ := Own.lend hO21 hO15l3 e15l3
  obtain ⟨hO15l3l2l1, e15l3l2l1⟩ := Own.lend1 hO20 hO15l3l2 e15l3l2
  obtain ⟨hO15l3l2l1l0, e15l3l2l1l0⟩ := Own.lend1 hO19 hO15l3l2l1 e15l3l2l1
  refine ⟨_, rfl, ?_⟩
  have hK24 : Kept w8 _ _ w15 := Kept.to (e9.trans (e11.trans (e13.trans (e16.trans (e17.trans (e18.trans (e19.trans e15l3l2l1l0))))))) (hO15l3l2l1l0.t.t.perm (pmA (pmA pm0))).r
  refine d_back hK24 ?_
  refine d_one (i := 11) (listed' := #[true, true, true, true, true, true, true, true, true, true, true, true, false]) (by rfl) (by kernel_rfl) (by rfl) ?_
  refine s_append Try.underlying33 I5 rfl (by decide) (by decide) rfl rfl hSg (hO15l3l2l1l0.perm (pmC (pmC (pmA (pmA pm0))))) (Rd.cs (hR.ext (e1.trans (e7.trans (e8.trans (e9.trans (e11.trans (e13.trans (e16.trans (e17.trans (e18.trans (e19.trans e15l3l2l1l0)))))))))))) (fl_len eB_len data) eB_one (mk := 17 + data.length) (by omega) (by omega) ?_
  intro a58 c58 S58 w25 hS58 hO25' e25'
  have hO25 := hO25'.perm (List.Perm.symm (pmC (pmC (pmA (pmA pm0))))); have e25 := e25'.permB (pmC (pmC (pmA (pmA pm0)))) (List.Perm.symm (pmC (pmC (pmA (pmA pm0))))); clear hO25' e25'
  have hK26 : Kept w8 _ _ w25 := Kept.to (e9.trans (e11.trans (e13.trans (e16.trans (e17.trans (e18.trans (e19.trans (e15l3l2l1l0.trans e25)))))))) (hO25.t.t.perm (pmA (pmA pm0))).r
  refine d_back hK26 ?_
  refine d_one (i := 12) (listed' := #[true, true, true, true, true, true, true, true, true, true, true, true, true]) (by rfl) (by kernel_rfl) (by rfl) ?_
  refine s_assign (v := .slice _ _ _) rfl ?_
  refine d_tail rfl ?_
  refine d_done (by kernel_rfl) ?_
  refine c_next ?_
  refine c_seq ?_
  refine c_reg ?_
  refine s_move (v := .slice _ _ _) rfl ?_
  refine s_move (v := .slice _ _ _) rfl ?_
  refine s_len Try.underlying33 rfl ?_
  refine s_sub rfl rfl (by omega) (by omega) ?_
  refine s_appendZ (k := (251 - (17 + data.length))) Try.underlying33 Try.underlying3 I5 rfl (by decide) (by decide) rfl (show Value.int .i64 ((251 : Int) - ((17 + data.length : Nat) : Int)) = Value.int .i64 ((251 - (17 + data.length) : Nat) : Int) from congrArg (Value.int .i64) (by omega)) hS58 (hO25.perm (pmC (pmC (pmA (pmA pm0))))) (by rw [zeroCells_one rfl]; intro u hu; rw [List.eq_of_mem_replicate hu]; rfl) (mk := 251) (by omega) (by omega) ?_
  intro a63 c63 S63 w27 hS63 hO27' e27'
  have hO27 := hO27'.perm (List.Perm.symm (pmC (pmC (pmA (pmA pm0))))); have e27 := e27'.permB (pmC (pmC (pmA (pmA pm0)))) (List.Perm.symm (pmC (pmC (pmA (pmA pm0))))); clear hO27' e27'
  have hS63' : OwnSl 5 1 a63 251 c63 (fl eB (headB gn nn data)) S63 := by rw [zeroCells_one rfl, fl_rep0, ← fl_app, ← fl_app] at hS63; simpa [headB] using hS63
  refine s_assign (v := .slice _ _ _) rfl ?_
  refine s_nil ?_
  refine c_next ?_
  refine c_seq ?_
  refine c_reg ?_
  refine s_move (v := .slice _ _ _) rfl ?_
  refine s_move (v := .slice _ _ _) rfl ?_
  obtain ⟨hO29, e29⟩ := hO27.permE (pmC (pmC (pmA (pmA pm0))))
  obtain ⟨hO30, e30⟩ := hO29.dropS
  refine s_call cf62 rfl (record_sums _ _ (headB gn nn data) 251 (headB_len hd) (by decide) _ _ (hS63'.drop hO29).2.2 hO30) ?_
  rintro er66 w28 ⟨as_, Ss, rfl, hSs, hO28, e28⟩
  obtain ⟨hO28l0, e28l0⟩ := Own.lend hO29 hO28 e28
  refine ⟨_, rfl, ?_⟩
  refine s_append Try.underlying33 I5 rfl (by decide) (by decide) rfl rfl hS63' (hO28l0.perm pm0) (hSs.cs (hO28l0.perm (pmA pm0))) (by rw [fl_len eB_len]; rfl) eB_one (mk := 255) (by omega) (by omega) ?_
  intro a67 c67 S67 w31 hS67 hO31' e31'
  have hO31 := hO31'.perm (List.Perm.symm pm0); have e31 := e31'.permB pm0 (List.Perm.symm pm0); clear hO31' e31'
  refine s_assign (v := .slice _ _ _) rfl ?_
  refine s_nil ?_
  refine c_next ?_
  refine c_seq ?_
  refine c_reg ?_
  refine s_move (v := .slice _ _ _) rfl ?_
  refine s_bsE (en := eB) (xs := [0]) (vs := [.int _ _]) Try.underlying33 I5 hO31 rfl rfl (by simp [Value.cells]) (by decide) rfl ?_
  intro b69 w32 hz69 hl69 hO32 e32
  refine s_append Try.underlying33 I5 rfl (by decide) (by decide) rfl rfl hS67 (hO32.perm (pmC pm0)) (litRd eB_len (m := 1) rfl (by decide) hO32).cs rfl eB_one (mk := 256) (by omega) (by omega) ?_
  intro a70 c70 S70 w33 hS70 hO33' e33'
  have hO33 := hO33'.perm (List.Perm.symm (pmC pm0)); have e33 := e33'.permB (pmC pm0) (List.Perm.symm (pmC pm0)); clear hO33' e33'
  refine s_assign (v := .slice _ _ _) rfl ?_
  refine s_assign (v := .int _ _) rfl ?_
  refine s_nil ?_
  refine c_next ?_
  refine c_ret ?_
  refine e_2 (v := .slice _ _ _) (v' := .int _ _) Try.results32 rfl rfl ?_
  obtain ⟨hO34, e34⟩ := hO33.drop1
  obtain ⟨hO35, e35⟩ := hO34.permE (pmA pm0)
  obtain ⟨hO36, e36⟩ := hO35.dropS
  obtain ⟨hO37, e37⟩ := hO36.permE (pmbA pmb0)
  obtain ⟨hO38, e38⟩ := hO37.drop1
  obtain ⟨hO39, e39⟩ := hO38.permE (pmbA pmb0)
  obtain ⟨hO40, e40⟩ := hO39.drop1
  obtain ⟨hO41, e41⟩ := hO40.permE (pmA pm0)
  obtain ⟨hO42, e42⟩ := hO41.dropS
  obtain ⟨hO43, e43⟩ := hO42.permE (pmA pm0)
  obtain ⟨hO44, e44⟩ := hO43.dropS
  obtain ⟨hO45, e45⟩ := hO44.permE (pmbA pmb0)
  obtain ⟨hO46, e46⟩ := hO45.drop1
  exact .inr (.inr ⟨by omega, by omega, _, _, _, rfl, by simpa [makeB, fl_app] using hS70, hO46, (e1.trans (e7.trans (e8.trans (e9.trans (e11.trans (e13.trans (e16.trans (e17.trans (e18.trans (e19.trans (e15l3l2l1l0.trans (e25.trans (e27.trans (e29.trans (e28l0.trans (e31.trans (e32.trans (e33.trans (e34.trans (e35.trans (e36.trans (e37.trans (e38.trans (e39.trans (e40.trans (e41.trans (e42.trans (e43.trans (e44.trans (e45.trans e46))))))))))))))))))))))))))))))⟩)

theorem record_MakeF (gen no : Int) (a : Option Addr) (c : Nat) (data : List UInt8) (m : Nat) (hdm : data.length = m) (hm : m ≤ 1000000000000) (w : World) (L : Hp) (hR : Rd w L a (fl eB data)) (hO : Own w L) :
    Calls Try.prog 32 #[.agg #[.int .i64 gen, .int .i64 no, .slice a m c]] w fun en w' => ∃ a' c' mb S, en = .returned (.tuple #[.slice a' mb c', .int .i64 (mkE gen no data : Int)]) ∧ (mkB gen no data).length = mb ∧ OwnSl 5 1 a' mb c' (fl eB (mkB gen no data)) S ∧ Own w' (S ++ L) ∧ Ext w L w' (S ++ L) := by
  subst hdm
  refine Calls.mono (record_Make gen no a c data hm w L hR hO) fun en w' h => ?_
  rcases h with ⟨h1, rfl, h3, h4⟩ | ⟨h1, h2, rfl, h3, h4⟩ | ⟨h1, h2, a', c', S, rfl, h3, h4, h5⟩
  · have he : mkE gen no data = 1 := if_pos h1
    rw [show mkB gen no data = [] from if_neg (by omega), he]
    exact ⟨none, 0, 0, [], rfl, rfl, OwnSl.nil _ _, h3, h4⟩
  · have he : mkE gen no data = 22 := (if_neg (fun q => q h1)).trans (if_pos h2)
    rw [show mkB gen no data = [] from if_neg (by omega), he]
    exact ⟨none, 0, 0, [], rfl, rfl, OwnSl.nil _ _, h3, h4⟩
  · have he : mkE gen no data = 0 := (if_neg (fun q => q h1)).trans (if_neg (by omega))
    rw [show mkB gen no data = makeB gen.toNat no.toNat data from if_pos he, he]
    exact ⟨a', c', 256, S, rfl, makeB_len h2, h3, h4, h5⟩

theorem record_Marked (a : Option Addr) (c : Nat) (xs : List UInt8) (m : Nat) (hxm : xs.length = m) (hm : m ≤ 1000000000000) (h0 : 0 < m) (is : Bool) (w : World) (L : Hp) (hR : Rd w L a (fl eB xs)) (hO : Own w L) :
    Calls Try.prog 35 #[.slice a m c, .bool is] w fun en w' => ∃ a' c' S, en = .returned (.slice a' m c') ∧ OwnSl 5 1 a' m c' (fl eB (marked xs is)) S ∧ Own w' (S ++ L) ∧ Ext w L w' (S ++ L) := by
  subst hxm
  refine enter (n := 23) _ Try.func35 rfl Try.ntmps35 (by simp) ?_
  refine c_seq ?_
  refine c_reg ?_
  refine s_assign (v := .slice _ _ _) rfl ?_
  refine s_nil ?_
  refine c_next ?_
  refine c_seq ?_
  refine c_reg ?_
  refine s_move (v := .slice _ _ _) rfl ?_
  refine s_call cf64 rfl (cloneB a c xs _ rfl _ _ hR (by omega) hO) ?_
  rintro er8 w1 ⟨ag, cg, Sg, rfl, hSg, hO1, e1⟩
  refine ⟨_, rfl, ?_⟩
  refine s_assign (v := .slice _ _ _) rfl ?_
  refine s_nil ?_
  refine c_next ?_
  refine c_seq ?_
  refine c_seq ?_
  refine c_reg ?_
  refine s_move (v := .slice _ _ _) rfl ?_
  refine s_len Try.underlying33 rfl ?_
  refine s_assign (v := .int _ _) rfl ?_
  refine s_nil ?_
  refine c_next ?_
  refine c_seq ?_
  refine c_reg ?_
  refine s_move (v := .int _ _) rfl ?_
  refine c_gtr rfl rfl (fun h12 => ?_) (fun h12 => ?_)
  refine s_nil ?_
  refine c_next ?_
  refine c_condT rfl ?_
  refine c_seq ?_
  refine c_reg ?_
  refine s_move (v := .slice _ _ _) rfl ?_
  refine s_move (v := .int _ _) rfl ?_
  refine s_sub rfl rfl (by omega) (by omega) ?_
  refine s_idxO Try.underlying33 I5 rfl rfl (by omega) (by omega) hSg ?_
  intro g16 tl16 hga16 hgS16 hgl16 hgc16 hgm16 hgx16
  subst hgS16
  refine s_storeO (v := .int _ _) (e := eB) (u := 0) (o' := xs.length - 1) I5 rfl rfl rfl hO1 rfl (by simp [eB]) eB_len hgl16 hgc16 hgm16 hgx16 hga16 (by omega) (by omega) ?_
  intro S16_w2 w2 hS2 hO2 e2
  refine s_nil ?_
  refine c_next ?_
  refine c_seq ?_
  refine c_reg ?_
  cases is with
  | true =>
    refine s_move (v := .bool _) rfl ?_
    refine s_nil ?_
    refine c_next ?_
    refine c_condT rfl ?_
    refine c_reg ?_
    refine s_move (v := .slice _ _ _) rfl ?_
    refine s_move (v := .int _ _) rfl ?_
    refine s_sub rfl rfl (by omega) (by omega) ?_
    refine s_idxO Try.underlying33 I5 rfl rfl (by omega) (by omega) hS2 ?_
    intro g21 tl21 hga21 hgS21 hgl21 hgc21 hgm21 hgx21
    subst hgS21
    refine s_storeO (v := .int _ _) (e := eB) (u := 1) (o' := xs.length - 1) I5 rfl rfl rfl hO2 rfl (by simp [eB]) eB_len hgl21 hgc21 hgm21 hgx21 hga21 (by omega) (by omega) ?_
    intro S21_w3 w3 hS3 hO3 e3
    rw [List.set_set] at hS3
    refine s_nil ?_
    refine c_next ?_
    refine c_seq ?_
    refine c_reg ?_
    refine s_move (v := .slice _ _ _) rfl ?_
    refine s_assign (v := .slice _ _ _) rfl ?_
    refine s_nil ?_
    refine c_next ?_
    refine c_ret ?_
    refine e_1 (v := .slice _ _ _) Try.results35 rfl ?_
    exact ⟨_, _, _, rfl, hS3, hO3, (e1.trans (e2.trans e3))⟩
  | false =>
    refine s_move (v := .bool _) rfl ?_
    refine s_nil ?_
    refine c_next ?_
    refine c_condF rfl ?_
    refine c_skip ?_
    refine c_next ?_
    refine c_seq ?_
    refine c_reg ?_
    refine s_move (v := .slice _ _ _) rfl ?_
    refine s_assign (v := .slice _ _ _) rfl ?_
    refine s_nil ?_
    refine c_next ?_
    refine c_ret ?_
    refine e_1 (v := .slice _ _ _) Try.results35 rfl ?_
    exact ⟨_, _, _, rfl, hS2, hO2, (e1.trans e2)⟩
  · exfalso; omega

theorem isNZ (x : UInt8) (w : World) (L : Hp) (hO : Own w L) : Calls Try.prog 68 #[.int .u8 (x.toNat : Int)] w fun en w' => ∃ b, en = .returned (.bool b) ∧ (b = true ↔ x ≠ 0) ∧ Own w' L ∧ Ext w L w' L := by
  refine enter (n := 5) _ Try.func68 rfl Try.ntmps68 (by simp) ?_
  refine c_seq ?_
  refine c_reg ?_
  refine s_assign (v := .bool _) rfl ?_
  refine s_nil ?_
  refine c_next ?_
  refine c_seq ?_
  refine c_reg ?_
  refine s_move (v := .int _ _) rfl ?_
  refine c_neq rfl rfl (fun h4 => ?_) (fun h4 => ?_)
  · skip
    refine s_assign (v := .bool _) rfl ?_
    refine s_nil ?_
    refine c_next ?_
    refine c_ret ?_
    refine e_1 (v := .bool _) Try.results68 rfl ?_
    exact ⟨true, rfl, by simp only [true_iff]; rintro rfl; exact h4 rfl, hO, (Ext.refl _ _)⟩
  refine s_assign (v := .bool _) rfl ?_
  refine s_nil ?_
  refine c_next ?_
  refine c_ret ?_
  refine e_1 (v := .bool _) Try.results68 rfl ?_
  exact ⟨false, rfl, by simp only [Bool.false_eq_true, ne_eq, false_iff, Classical.not_not]; exact UInt8.toNat_inj.1 (by simpa using h4), hO, (Ext.refl _ _)⟩

theorem indexNZ (a : Option Addr) (c : Nat) (xs : List UInt8) (m : Nat) (hxm : xs.length = m) (hm : m ≤ 1000000000000) (w : World) (L : Hp) (hR : Rd w L a (fl eB xs)) (hO : Own w L) :
    Calls Try.prog 80 #[.slice a m c, .func (.func 68) #[] #[]] w fun en w' => ∃ r, en = .returned (.int .i64 r) ∧ (0 ≤ r ↔ ∃ x, x ∈ xs ∧ x ≠ 0) ∧ Own w' L ∧ Ext w L w' L := by
  subst hxm
  refine enter (n := 19) _ Try.func80 rfl Try.ntmps80 (by simp) ?_
  refine c_seq ?_
  refine c_reg ?_
  refine s_assign (v := .int _ _) rfl ?_
  refine s_nil ?_
  refine c_next ?_
  refine c_seq ?_
  refine c_seq ?_
  refine c_reg ?_
  refine s_move (v := .slice _ _ _) rfl ?_
  refine s_len Try.underlying33 rfl ?_
  refine s_move (v := .int _ _) rfl ?_
  refine s_nil ?_
  refine c_next ?_
  refine c_block ?_
  refine c_loopL hO (fun Lc f0 m g wl => ∃ (k : Nat), (m = xs.length - k) ∧ (g 8 = .int .i64 (k : Int)) ∧ (g 0 = f0 0) ∧ (g 1 = f0 1) ∧ (g 7 = f0 7) ∧ (k ≤ xs.length) ∧ (∀ x ∈ xs.take k, x = 0) ∧ (Own wl (Lc)) ∧ (Ext w Lc wl (Lc))) (xs.length - 0) ?_ ?_
  · refine ⟨0, rfl, (by first | rfl | (simp; done)), rfl, rfl, rfl, by omega, by simp, hO, (Ext.refl _ _)⟩
  intro m1 g1 w1 hI1
  obtain ⟨k, hm1, hs1_8, hs1_0, hs1_1, hs1_7, hk, hi, hO1, e1⟩ := hI1
  obtain ⟨q1, rfl⟩ := fr4 hs1_8 hs1_0 hs1_1 hs1_7
  clear hs1_8 hs1_0 hs1_1 hs1_7
  refine c_seq ?_
  refine c_reg ?_
  refine c_lss rfl rfl (fun h9 => ?_) (fun h9 => ?_)
  · skip
    obtain ⟨x, hx⟩ : ∃ x, xs[k]? = some x := ⟨xs[k]'(by omega), by simp⟩
    refine s_nil ?_
    refine c_next ?_
    refine c_seq ?_
    refine c_condT rfl ?_
    refine c_skip ?_
    refine c_next ?_
    refine c_seq ?_
    refine c_block ?_
    refine c_seq ?_
    refine c_reg ?_
    refine s_move (v := .int _ _) rfl ?_
    refine s_assign (v := .int _ _) rfl ?_
    refine s_nil ?_
    refine c_next ?_
    refine c_seq ?_
    refine c_reg ?_
    refine s_move rfl ?_
    refine s_move (v := .slice _ _ _) rfl ?_
    refine s_move (v := .int _ _) rfl ?_
    refine s_idxE Try.underlying33 I5 rfl rfl (by omega) (by omega) (Rd.cs (hR.ext e1)) eB_len (by decide) (by simpa using hx) ?_
    intro p14 hp14
    refine s_load1 Try.underlying5 rfl rfl (cellP hp14 0 rfl) ?_
    refine s_callV (fv := []) (cv := []) cf68 rfl rfl (isNZ x _ _ hO1) ?_
    rintro er16 w2 ⟨b, rfl, hb, hO2, e2⟩
    cases b with
    | true =>
      have hx0 := hb.1 rfl
      refine ⟨_, rfl, ?_⟩
      refine s_nil ?_
      refine c_next ?_
      refine c_condT rfl ?_
      refine c_seq ?_
      refine c_reg ?_
      refine s_move (v := .int _ _) rfl ?_
      refine s_assign (v := .int _ _) rfl ?_
      refine s_nil ?_
      refine c_next ?_
      refine c_ret ?_
      refine r_block ?_
      refine r_then ?_
      refine r_then ?_
      refine r_block ?_
      refine r_then ?_
      refine e_1 (v := .int _ _) Try.results80 rfl ?_
      exact ⟨_, rfl, ⟨fun _ => ⟨x, List.mem_of_getElem? hx, hx0⟩, fun _ => by omega⟩, hO2, (e1.trans e2)⟩
    | false =>
      have hx0 : x = 0 := Classical.byContradiction (fun h => by simpa using hb.2 h)
      refine ⟨_, rfl, ?_⟩
      refine s_nil ?_
      refine c_next ?_
      refine c_condF rfl ?_
      refine c_skip ?_
      refine x_norm ?_
      refine c_next ?_
      refine c_reg ?_
      refine s_add rfl rfl (by omega) (by omega) ?_
      refine s_move (v := .int _ _) rfl ?_
      refine s_nil ?_
      refine l_end (m' := xs.length - (k + 1)) (by omega) ?_
      refine ⟨k + 1, rfl, (by first | rfl | (simp; done) | (congr 1; omega)), rfl, rfl, rfl, by omega, by rw [List.take_add_one, hx]; intro y hy; rcases List.mem_append.1 hy with h1 | h1; exact hi y h1; simp at h1; rw [h1]; exact hx0, hO2, (e1.trans e2)⟩
  refine s_nil ?_
  refine c_next ?_
  refine c_seq ?_
  refine c_condF rfl ?_
  refine c_exit ?_
  refine x_then ?_
  refine x_then ?_
  refine x_same ?_
  refine c_next ?_
  refine c_seq ?_
  refine c_reg ?_
  refine s_assign (v := .int _ _) rfl ?_
  refine s_nil ?_
  refine c_next ?_
  refine c_ret ?_
  refine e_1 (v := .int _ _) Try.results80 rfl ?_
  rw [List.take_of_length_le (by omega)] at hi
  exact ⟨_, rfl, ⟨fun h => by omega, fun ⟨x, h1, h2⟩ => (h2 (hi x h1)).elim⟩, hO1, e1⟩

theorem containsNZ (a : Option Addr) (c : Nat) (xs : List UInt8) (m : Nat) (hxm : xs.length = m) (hm : m ≤ 1000000000000) (w : World) (L : Hp) (hR : Rd w L a (fl eB xs)) (hO : Own w L) :
    Calls Try.prog 67 #[.slice a m c, .func (.func 68) #[] #[]] w fun en w' => ∃ b, en = .returned (.bool b) ∧ (b = true ↔ ∃ x, x ∈ xs ∧ x ≠ 0) ∧ Own w' L ∧ Ext w L w' L := by
  refine enter (n := 9) _ Try.func67 rfl Try.ntmps67 (by simp) ?_
  refine c_seq ?_
  refine c_reg ?_
  refine s_assign (v := .bool _) rfl ?_
  refine s_nil ?_
  refine c_next ?_
  refine c_seq ?_
  refine c_reg ?_
  refine s_move (v := .slice _ _ _) rfl ?_
  refine s_move rfl ?_
  refine s_call cf80 rfl (indexNZ a c xs m hxm hm _ _ hR hO) ?_
  rintro er7 w1 ⟨r, rfl, hr, hO1, e1⟩
  refine ⟨_, rfl, ?_⟩
  refine c_geq rfl rfl (fun h8 => ?_) (fun h8 => ?_)
  · skip
    refine s_assign (v := .bool _) rfl ?_
    refine s_nil ?_
    refine c_next ?_
    refine c_ret ?_
    refine e_1 (v := .bool _) Try.results67 rfl ?_
    exact ⟨true, rfl, by simp only [true_iff]; exact hr.1 h8, hO1, e1⟩
  refine s_assign (v := .bool _) rfl ?_
  refine s_nil ?_
  refine c_next ?_
  refine c_ret ?_
  refine e_1 (v := .bool _) Try.results67 rfl ?_
  exact ⟨false, rfl, by simp only [Bool.false_eq_true, false_iff]; exact fun h => by have := hr.2 h; omega, hO1, e1⟩
end Go.Proofs.Ytpjojocckoobeaa
