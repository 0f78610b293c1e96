/- A part of the proof that the row of the law holds of the program as translated: lemmas and contracts of its functions. -/
import Derived.Test.YtpjojocckoobeaaProg
import Derived.Test.YtpjojocckoobeaaGvW
set_option linter.unusedVariables false
set_option linter.unusedSimpArgs false
set_option maxRecDepth 10000
namespace Go.Proofs.Ytpjojocckoobeaa
open Go.GV Go.RowKit
attribute [local irreducible] wpList
theorem I5 : TI Try.prog 5 (.int .u8 0) 1 1 := by unfold TI; kernel_rfl
theorem cf82 : ∀ (args : Array Value) (w : World), (callFunc 82 args).run Try.prog w = .ok (.enter 82 args) w := cf_of Try.func82 (by kernel_rfl) rfl
theorem cf83 : ∀ (args : Array Value) (w : World), (callFunc 83 args).run Try.prog w = .ok (.enter 83 args) w := cf_of Try.func83 (by kernel_rfl) rfl
theorem cf84 : ∀ (args : Array Value) (w : World), (callFunc 84 args).run Try.prog w = .ok (.enter 84 args) w := cf_of Try.func84 (by kernel_rfl) rfl


/-! sums, over natural numbers -/
def crcStep (c : Nat) : Nat := if c &&& 1 = 1 then c / 2 ^ 1 ^^^ 2197175160 else c / 2 ^ 1
def crcIter : Nat → Nat → Nat
  | 0, c => c
  | k + 1, c => crcIter k (crcStep c)
def crcEntry (c : Nat) : Nat := crcIter 8 c
def crcOne (c : Nat) (x : UInt8) : Nat := c / 2 ^ 8 ^^^ crcEntry ((c ^^^ x.toNat) &&& 255)
def crcMore (s : Nat) (xs : List UInt8) : Nat := 4294967296 - 1 - xs.foldl crcOne (4294967296 - 1 - s)
theorem crcStep_lt {c : Nat} (h : c < 4294967296) : crcStep c < 4294967296 := by
  unfold crcStep
  split
  · exact Nat.xor_lt_two_pow (n := 32) (by omega) (by decide)
  · omega
theorem crcIter_lt : ∀ (k c : Nat), c < 4294967296 → crcIter k c < 4294967296
  | 0, _, h => h
  | k + 1, _, h => crcIter_lt k _ (crcStep_lt h)
theorem crcOne_lt {c : Nat} (h : c < 4294967296) (x : UInt8) : crcOne c x < 4294967296 :=
  Nat.xor_lt_two_pow (n := 32) (by omega) (crcIter_lt 8 _ (Nat.lt_of_le_of_lt Nat.and_le_right (by decide)))
theorem crcFold_lt : ∀ (xs : List UInt8) (c : Nat), c < 4294967296 → xs.foldl crcOne c < 4294967296
  | [], _, h => h
  | x :: xs, _, h => crcFold_lt xs _ (crcOne_lt h x)
theorem crcMore_lt (s : Nat) (xs : List UInt8) : crcMore s xs < 4294967296 := by unfold crcMore; omega
theorem foldl_take {α β : Type} {g : β → α → β} {b : β} {xs : List α} {k : Nat} {x : α} (hx : xs[k]? = some x) : (xs.take (k + 1)).foldl g b = g ((xs.take k).foldl g b) x := by
  rw [List.take_add_one, hx, List.foldl_append]; rfl


theorem crc_step (c : Nat) (hc : c < 4294967296) (w : World) (L : Hp) (hO : Own w L) : Calls Try.prog 84 #[.int .u32 (c : Int)] w fun en w' => en = .returned (.int .u32 (crcStep c : Int)) ∧ Own w' L ∧ Ext w L w' L := by
  refine enter (n := 11) _ Try.func84 rfl Try.ntmps84 (by simp) ?_
  refine c_seq ?_
  refine c_reg ?_
  refine s_assign (v := .int _ _) rfl ?_
  refine s_nil ?_
  refine c_next ?_
  refine c_seq ?_
  refine c_seq ?_
  refine c_reg ?_
  refine s_move (v := .int _ _) rfl ?_
  refine s_andN (a := _) (b := 1) (M := 4294967296) rfl rfl rfl rfl (by omega) (by omega) ?_
  refine c_eql rfl rfl (fun h5 => ?_) (fun h5 => ?_)
  · skip
    have hc1 : c &&& 1 = 1 := by omega
    refine s_nil ?_
    refine c_next ?_
    refine c_condT rfl ?_
    refine c_seq ?_
    refine c_reg ?_
    refine s_move (v := .int _ _) rfl ?_
    refine s_shrN (b := 1) rfl rfl rfl (by decide) ?_
    refine s_xorN (a := _) (b := 2197175160) (M := 4294967296) rfl rfl rfl rfl (by omega) (by omega) ?_
    refine s_assign (v := .int _ _) rfl ?_
    refine s_nil ?_
    refine c_next ?_
    refine c_ret ?_
    refine r_then ?_
    refine e_1 (v := .int _ _) Try.results84 rfl ?_
    exact ⟨by unfold crcStep; first | rw [if_pos hc1] | rw [if_neg hc1], hO, (Ext.refl _ _)⟩
  have hc1 : ¬ c &&& 1 = 1 := by omega
  refine s_nil ?_
  refine c_next ?_
  refine c_condF rfl ?_
  refine c_skip ?_
  refine c_next ?_
  refine c_seq ?_
  refine c_reg ?_
  refine s_move (v := .int _ _) rfl ?_
  refine s_shrN (b := 1) rfl rfl rfl (by decide) ?_
  refine s_assign (v := .int _ _) rfl ?_
  refine s_nil ?_
  refine c_next ?_
  refine c_ret ?_
  refine e_1 (v := .int _ _) Try.results84 rfl ?_
  exact ⟨by unfold crcStep; first | rw [if_pos hc1] | rw [if_neg hc1], hO, (Ext.refl _ _)⟩

theorem crc_entry (c : Nat) (hc : c < 4294967296) (w : World) (L : Hp) (hO : Own w L) : Calls Try.prog 83 #[.int .u32 (c : Int)] w fun en w' => en = .returned (.int .u32 (crcEntry c : Int)) ∧ Own w' L ∧ Ext w L w' L := by
  refine enter (n := 9) _ Try.func83 rfl Try.ntmps83 (by simp) ?_
  refine c_seq ?_
  refine c_reg ?_
  refine s_assign (v := .int _ _) rfl ?_
  refine s_nil ?_
  refine c_next ?_
  refine c_seq ?_
  refine c_seq ?_
  refine c_reg ?_
  refine s_move (v := .int _ _) rfl ?_
  refine s_nil ?_
  refine c_next ?_
  refine c_block ?_
  refine c_loopL hO (fun Lc f0 m g wl => ∃ (k : Nat) (c' : Nat), (m = 8 - k) ∧ (g 0 = .int .u32 (c' : Int)) ∧ (g 3 = .int .i64 (k : Int)) ∧ (k ≤ 8) ∧ (c' < 4294967296) ∧ (crcIter (8 - k) c' = crcEntry c) ∧ (Own wl (L)) ∧ (Ext w Lc wl (L))) (8 - 0) ?_ ?_
  · refine ⟨0, c, rfl, (by first | rfl | (simp; done)), (by first | rfl | (simp; done)), by omega, hc, rfl, hO, (Ext.refl _ _)⟩
  intro m1 g1 w1 hI1
  obtain ⟨k, c', hm1, hs1_0, hs1_3, hk, hc', hi, hO1, e1⟩ := hI1
  obtain ⟨q1, rfl⟩ := fr2 hs1_0 hs1_3
  clear hs1_0 hs1_3
  refine c_seq ?_
  refine c_reg ?_
  refine c_lss rfl rfl (fun h4 => ?_) (fun h4 => ?_)
  · skip
    refine s_nil ?_
    refine c_next ?_
    refine c_seq ?_
    refine c_condT rfl ?_
    refine c_skip ?_
    refine c_next ?_
    refine c_seq ?_
    refine c_block ?_
    refine c_reg ?_
    refine s_move (v := .int _ _) rfl ?_
    refine s_call cf84 rfl (crc_step _ (by assumption) _ _ hO1) ?_
    rintro er6 w2 ⟨rfl, hO2, e2⟩
    refine ⟨_, rfl, ?_⟩
    refine s_assign (v := .int _ _) rfl ?_
    refine s_nil ?_
    refine x_norm ?_
    refine c_next ?_
    refine c_reg ?_
    refine s_add rfl rfl (by omega) (by omega) ?_
    refine s_move (v := .int _ _) rfl ?_
    refine s_nil ?_
    refine l_end (m' := 8 - (k + 1)) (by omega) ?_
    refine ⟨k + 1, crcStep c', rfl, (by first | rfl | (simp; done) | (congr 1; omega)), (by first | rfl | (simp; done) | (congr 1; omega)), by omega, crcStep_lt hc', by rw [← hi, show 8 - k = (8 - (k + 1)) + 1 by omega]; rfl, hO2, (e1.trans e2)⟩
  refine s_nil ?_
  refine c_next ?_
  refine c_seq ?_
  refine c_condF rfl ?_
  refine c_exit ?_
  refine x_then ?_
  refine x_then ?_
  refine x_same ?_
  refine c_next ?_
  refine c_seq ?_
  refine c_reg ?_
  refine s_move (v := .int _ _) rfl ?_
  refine s_assign (v := .int _ _) rfl ?_
  refine s_nil ?_
  refine c_next ?_
  refine c_ret ?_
  refine e_1 (v := .int _ _) Try.results83 rfl ?_
  obtain rfl : k = 8 := by omega
  exact ⟨by rw [← hi]; rfl, hO1, e1⟩

theorem crc_More (s : Nat) (hs : s < 4294967296) (a : Option Addr) (c : Nat) (xs : List UInt8) (hm : xs.length ≤ 1000000000000) (w : World) (L : Hp) (hR : Rd w L a (fl eB xs)) (hO : Own w L) : Calls Try.prog 82 #[.int .u32 (s : Int), .slice a xs.length c] w fun en w' => en = .returned (.int .u32 (crcMore s xs : Int)) ∧ Own w' L ∧ Ext w L w' L := by
  refine enter (n := 28) _ Try.func82 rfl Try.ntmps82 (by simp) ?_
  refine c_seq ?_
  refine c_reg ?_
  refine s_assign (v := .int _ _) rfl ?_
  refine s_nil ?_
  refine c_next ?_
  refine c_seq ?_
  refine c_reg ?_
  refine s_move (v := .int _ _) rfl ?_
  refine s_comN (M := 4294967296) rfl rfl rfl (by omega) ?_
  refine s_assign (v := .int _ _) rfl ?_
  refine s_nil ?_
  refine c_next ?_
  refine c_seq ?_
  refine c_seq ?_
  refine c_reg ?_
  refine s_move (v := .slice _ _ _) rfl ?_
  refine s_len Try.underlying33 rfl ?_
  refine s_move (v := .int _ _) rfl ?_
  refine s_nil ?_
  refine c_next ?_
  refine c_block ?_
  refine c_loopL hO (fun Lc f0 m g wl => ∃ (k : Nat) (c' : Nat), (m = xs.length - k) ∧ (g 5 = .int .u32 (c' : Int)) ∧ (g 12 = .int .i64 (k : Int)) ∧ (g 0 = f0 0) ∧ (g 1 = f0 1) ∧ (g 10 = f0 10) ∧ (g 11 = f0 11) ∧ (k ≤ xs.length) ∧ (c' < 4294967296) ∧ ((xs.take k).foldl crcOne (4294967296 - 1 - s) = c') ∧ (Own wl (L)) ∧ (Ext w Lc wl (L))) (xs.length - 0) ?_ ?_
  · refine ⟨0, 4294967296 - 1 - s, rfl, (by first | rfl | (simp; done)), (by first | rfl | (simp; done)), rfl, rfl, rfl, rfl, by omega, by omega, rfl, hO, (Ext.refl _ _)⟩
  intro m1 g1 w1 hI1
  obtain ⟨k, c', hm1, hs1_5, hs1_12, hs1_0, hs1_1, hs1_10, hs1_11, hk, hc', hi, hO1, e1⟩ := hI1
  obtain ⟨q1, rfl⟩ := fr6 hs1_5 hs1_12 hs1_0 hs1_1 hs1_10 hs1_11
  clear hs1_5 hs1_12 hs1_0 hs1_1 hs1_10 hs1_11
  refine c_seq ?_
  refine c_reg ?_
  refine c_lss rfl rfl (fun h13 => ?_) (fun h13 => ?_)
  · skip
    obtain ⟨x, hx⟩ : ∃ x, xs[k]? = some x := ⟨xs[k]'(by omega), by simp⟩
    have hx8 := x.toNat_lt
    refine s_nil ?_
    refine c_next ?_
    refine c_seq ?_
    refine c_condT rfl ?_
    refine c_skip ?_
    refine c_next ?_
    refine c_seq ?_
    refine c_block ?_
    refine c_seq ?_
    refine c_reg ?_
    refine s_idxE Try.underlying33 I5 rfl rfl (by omega) (by omega) (Rd.cs (hR.ext e1)) eB_len (by decide) (by simpa using hx) ?_
    intro p14 hp14
    refine s_load1 Try.underlying5 rfl rfl (cellP hp14 0 rfl) ?_
    refine s_assign (v := .int _ _) rfl ?_
    refine s_nil ?_
    refine c_next ?_
    refine c_reg ?_
    refine s_move (v := .int _ _) rfl ?_
    refine s_shrN (b := 8) rfl rfl rfl (by decide) ?_
    refine s_move (v := .int _ _) rfl ?_
    refine s_move (v := .int _ _) rfl ?_
    refine s_convN (a := _) (M := 4294967296) Try.underlying5 Try.underlying131 rfl rfl rfl (by omega) ?_
    refine s_xorN (a := _) (b := _) (M := 4294967296) rfl rfl rfl rfl (by omega) (by omega) ?_
    refine s_andN (a := _) (b := 255) (M := 4294967296) rfl rfl rfl rfl (Nat.xor_lt_two_pow (n := 32) (by omega) (by omega)) (by omega) ?_
    refine s_call cf83 rfl (crc_entry _ (Nat.lt_of_le_of_lt Nat.and_le_right (by decide)) _ _ hO1) ?_
    rintro er23 w2 ⟨rfl, hO2, e2⟩
    refine ⟨_, rfl, ?_⟩
    refine s_xorN (a := _) (b := _) (M := 4294967296) rfl rfl rfl rfl (by omega) (crcIter_lt 8 _ (Nat.lt_of_le_of_lt Nat.and_le_right (by decide))) ?_
    refine s_assign (v := .int _ _) rfl ?_
    refine s_nil ?_
    refine x_norm ?_
    refine c_next ?_
    refine c_reg ?_
    refine s_add rfl rfl (by omega) (by omega) ?_
    refine s_move (v := .int _ _) rfl ?_
    refine s_nil ?_
    refine l_end (m' := xs.length - (k + 1)) (by omega) ?_
    refine ⟨k + 1, crcOne c' x, rfl, (by first | rfl | (simp; done) | (congr 1; omega)), (by first | rfl | (simp; done) | (congr 1; omega)), rfl, rfl, rfl, rfl, by omega, crcOne_lt hc' x, by rw [foldl_take hx, hi], hO2, (e1.trans e2)⟩
  refine s_nil ?_
  refine c_next ?_
  refine c_seq ?_
  refine c_condF rfl ?_
  refine c_exit ?_
  refine x_then ?_
  refine x_then ?_
  refine x_same ?_
  refine c_next ?_
  refine c_seq ?_
  refine c_reg ?_
  refine s_move (v := .int _ _) rfl ?_
  refine s_comN (M := 4294967296) rfl rfl rfl (by omega) ?_
  refine s_assign (v := .int _ _) rfl ?_
  refine s_nil ?_
  refine c_next ?_
  refine c_ret ?_
  refine e_1 (v := .int _ _) Try.results82 rfl ?_
  obtain rfl : k = xs.length := by omega
  rw [List.take_length] at hi
  subst hi
  exact ⟨rfl, hO1, e1⟩

theorem crc_Sum (a : Option Addr) (c : Nat) (xs : List UInt8) (hm : xs.length ≤ 1000000000000) (w : World) (L : Hp) (hR : Rd w L a (fl eB xs)) (hO : Own w L) : Calls Try.prog 76 #[.slice a xs.length c] w fun en w' => en = .returned (.int .u32 (crcMore 0 xs : Int)) ∧ Own w' L ∧ Ext w L w' L := by
  refine enter (n := 5) _ Try.func76 rfl Try.ntmps76 (by simp) ?_
  refine c_seq ?_
  refine c_reg ?_
  refine s_assign (v := .int _ _) rfl ?_
  refine s_nil ?_
  refine c_next ?_
  refine c_seq ?_
  refine c_reg ?_
  refine s_move (v := .slice _ _ _) rfl ?_
  refine s_call cf82 rfl (crc_More 0 (by decide) _ _ xs hm _ _ hR hO) ?_
  rintro er4 w1 ⟨rfl, hO1, e1⟩
  refine ⟨_, rfl, ?_⟩
  refine s_assign (v := .int _ _) rfl ?_
  refine s_nil ?_
  refine c_next ?_
  refine c_ret ?_
  refine e_1 (v := .int _ _) Try.results76 rfl ?_
  exact ⟨rfl, hO1, e1⟩
end Go.Proofs.Ytpjojocckoobeaa
