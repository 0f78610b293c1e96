/- A part of the proof that the row of the law holds of the program as translated: lemmas and contracts of its functions. -/
import Derived.Test.YtpjojocckoobeaaProg
import Derived.Test.YtpjojocckoobeaaGvW
set_option linter.unusedVariables false
set_option linter.unusedSimpArgs false
set_option maxRecDepth 10000
namespace Go.Proofs.Ytpjojocckoobeaa
open Go.GV Go.RowKit
attribute [local irreducible] wpList
theorem I5 : TI Try.prog 5 (.int .u8 0) 1 1 := by unfold TI; kernel_rfl


/-- A number's bytes, the highest first. -/
def beB (m n : Nat) : List UInt8 := (List.range m).map fun i => UInt8.ofNat (n / 2 ^ (8 * (m - 1 - i)))
theorem beB_len (m n : Nat) : (beB m n).length = m := by simp [beB]
theorem beB_step {m k n : Nat} (h : k < m) : (List.replicate (m - k) 0 ++ (beB m n).drop (m - k)).set (m - 1 - k) (UInt8.ofNat (n / 2 ^ (8 * k))) = List.replicate (m - (k + 1)) 0 ++ (beB m n).drop (m - (k + 1)) := by
  apply List.ext_getElem?
  intro i
  have hd : m - (k + 1) = m - 1 - k := by omega
  rw [hd]
  rcases Nat.lt_trichotomy i (m - 1 - k) with h1 | h1 | h1
  · rw [List.getElem?_set_ne (by omega), List.getElem?_append_left (by simp; omega), List.getElem?_append_left (by simp; omega), List.getElem?_replicate, List.getElem?_replicate, if_pos (by omega), if_pos (by omega)]
  · subst h1
    rw [List.getElem?_set_self (by simp [beB]; omega), List.getElem?_append_right (by simp), List.length_replicate, Nat.sub_self, List.getElem?_drop, Nat.add_zero]
    simp only [beB, List.getElem?_map]
    rw [List.getElem?_range (by omega)]
    simp only [Option.map_some]
    congr 4
    omega
  · rw [List.getElem?_set_ne (by omega), List.getElem?_append_right (by simp; omega), List.getElem?_append_right (by simp; omega), List.getElem?_drop, List.getElem?_drop]
    congr 1
    simp
    omega
/-- .. and the number of bytes. -/
def beN (bs : List UInt8) : Nat := bs.foldl (fun n x => (n * 2 ^ 8 % 18446744073709551616) ||| x.toNat) 0
theorem beStep_lt {n : Nat} (x : UInt8) : (n * 2 ^ 8 % 18446744073709551616) ||| x.toNat < 18446744073709551616 :=
  Nat.or_lt_two_pow (n := 64) (Nat.mod_lt _ (by decide)) (by have := x.toNat_lt; omega)


theorem word_Put (n : Nat) (hn : n < 18446744073709551616) (m : Int) (w : World) (L : Hp) (hO : Own w L) :
    Calls Try.prog 60 #[.int .u64 (n : Int), .int .i64 m] w fun en w' => if 1 ≤ m ∧ m ≤ 8 then (if m < 8 ∧ n / 2 ^ (8 * m.toNat) ≠ 0 then en = .returned (.tuple #[.slice none 0 0, .int .i64 22]) ∧ Own w' L ∧ Ext w L w' L
      else ∃ a c S, en = .returned (.tuple #[.slice a m.toNat c, .int .i64 0]) ∧ OwnSl 5 1 a m.toNat c (fl eB (beB m.toNat n)) S ∧ Own w' (S ++ L) ∧ Ext w L w' (S ++ L)) else en = .returned (.tuple #[.slice none 0 0, .int .i64 1]) ∧ Own w' L ∧ Ext w L w' L := by
  refine enter (n := 45) _ Try.func60 rfl Try.ntmps60 (by simp) ?_
  refine c_seq ?_
  refine c_reg ?_
  refine s_assign (v := .slice _ _ _) rfl ?_
  refine s_assign (v := .int _ _) rfl ?_
  refine s_nil ?_
  refine c_next ?_
  refine c_seq ?_
  refine c_seq ?_
  refine c_reg ?_
  refine s_move (v := .int _ _) rfl ?_
  refine c_lss rfl rfl (fun h9 => ?_) (fun h9 => ?_)
  · skip
    refine s_move (v := .bool _) rfl ?_
    refine g_skip 10 (by rfl) (by rfl) (by rfl) ?_
    refine g_skip 10 (by rfl) (by rfl) (by rfl) ?_
    refine s_pickT (v := .bool _) rfl rfl ?_
    refine s_nil ?_
    refine c_next ?_
    refine c_condT rfl ?_
    refine c_seq ?_
    refine c_reg ?_
    refine s_assign (v := .slice _ _ _) rfl ?_
    refine s_assign (v := .int _ _) rfl ?_
    refine s_nil ?_
    refine c_next ?_
    refine c_ret ?_
    refine r_then ?_
    refine e_2 (v := .slice _ _ _) (v' := .int _ _) Try.results60 rfl rfl ?_
    rw [if_neg (by omega)]; exact ⟨rfl, hO, (Ext.refl _ _)⟩
  refine s_move (v := .bool _) rfl ?_
  refine g_do 10 (by rfl) (by rfl) ?_
  refine s_move (v := .int _ _) rfl ?_
  refine g_do 10 (by rfl) (by rfl) ?_
  refine c_gtr rfl rfl (fun h12 => ?_) (fun h12 => ?_)
  · skip
    refine s_pickF (v := .bool _) rfl rfl ?_
    refine s_nil ?_
    refine c_next ?_
    refine c_condT rfl ?_
    refine c_seq ?_
    refine c_reg ?_
    refine s_assign (v := .slice _ _ _) rfl ?_
    refine s_assign (v := .int _ _) rfl ?_
    refine s_nil ?_
    refine c_next ?_
    refine c_ret ?_
    refine r_then ?_
    refine e_2 (v := .slice _ _ _) (v' := .int _ _) Try.results60 rfl rfl ?_
    rw [if_neg (by omega)]; exact ⟨rfl, hO, (Ext.refl _ _)⟩
  obtain ⟨k0, rfl⟩ : ∃ k0 : Nat, m = (k0 : Int) := ⟨m.toNat, by omega⟩
  refine s_pickF (v := .bool _) rfl rfl ?_
  refine s_nil ?_
  refine c_next ?_
  refine c_condF rfl ?_
  refine c_skip ?_
  refine c_next ?_
  refine c_seq ?_
  refine c_seq ?_
  refine c_reg ?_
  refine s_move (v := .int _ _) rfl ?_
  refine c_lss rfl rfl (fun h15 => ?_) (fun h15 => ?_)
  · skip
    refine s_move (v := .bool _) rfl ?_
    refine g_do 16 (by rfl) (by rfl) ?_
    refine s_move (v := .int _ _) rfl ?_
    refine g_do 16 (by rfl) (by rfl) ?_
    refine s_move (v := .int _ _) rfl ?_
    refine g_do 16 (by rfl) (by rfl) ?_
    refine s_mul rfl rfl (by omega) (by omega) ?_
    refine g_do 16 (by rfl) (by rfl) ?_
    refine s_convN (a := (8 * k0)) (M := 18446744073709551616) Try.underlying3 Try.underlying133 rfl rfl (show _ = Value.int .i64 ((8 * k0 : Nat) : Int) from congrArg (Value.int .i64) (by omega : (8 * (k0 : Int)) = ((8 * k0 : Nat) : Int))) (by omega) ?_
    refine g_do 16 (by rfl) (by rfl) ?_
    refine s_shrN (b := (8 * k0)) rfl rfl rfl (show 8 * k0 ≤ 64 by omega) ?_
    refine g_do 16 (by rfl) (by rfl) ?_
    refine c_neq rfl rfl (fun h22 => ?_) (fun h22 => ?_)
    · skip
      refine s_pickT (v := .bool _) rfl rfl ?_
      refine s_nil ?_
      refine c_next ?_
      refine c_condT rfl ?_
      refine c_seq ?_
      refine c_reg ?_
      refine s_assign (v := .slice _ _ _) rfl ?_
      refine s_assign (v := .int _ _) rfl ?_
      refine s_nil ?_
      refine c_next ?_
      refine c_ret ?_
      refine r_then ?_
      refine e_2 (v := .slice _ _ _) (v' := .int _ _) Try.results60 rfl rfl ?_
      rw [if_pos (by omega), Int.toNat_natCast, if_pos (by omega)]; exact ⟨rfl, hO, (Ext.refl _ _)⟩
    refine s_pickT (v := .bool _) rfl rfl ?_
    refine s_nil ?_
    refine c_next ?_
    refine c_condF rfl ?_
    refine c_skip ?_
    refine c_next ?_
    refine c_seq ?_
    refine c_reg ?_
    refine s_move (v := .int _ _) rfl ?_
    refine s_make Try.underlying33 I5 rfl hO rfl rfl (by omega) (by decide) ?_
    intro b25 w1 hz25 hl25 hO1 e1
    refine s_assign (v := .slice _ _ _) rfl ?_
    refine s_nil ?_
    refine c_next ?_
    refine c_seq ?_
    refine c_seq ?_
    refine c_reg ?_
    refine s_move (v := .slice _ _ _) rfl ?_
    refine s_len Try.underlying33 rfl ?_
    refine s_move (v := .int _ _) rfl ?_
    refine s_nil ?_
    refine c_next ?_
    refine c_block ?_
    refine c_loopL hO1 (fun Lc f0 m g wl => ∃ (k : Nat) (S : Hp), (m = k0 - k) ∧ (g 28 = .int .i64 (k : Int)) ∧ (g 0 = f0 0) ∧ (g 1 = f0 1) ∧ (g 6 = f0 6) ∧ (g 27 = f0 27) ∧ (k ≤ k0) ∧ (OwnSl 5 1 (some ⟨b25, 0, none⟩) k0 k0 (fl eB (List.replicate (k0 - k) 0 ++ (beB k0 n).drop (k0 - k))) S) ∧ (Own wl (S ++ L)) ∧ (Ext w1 Lc wl (S ++ L))) (k0 - 0) ?_ ?_
    · refine ⟨0, _, rfl, (by first | rfl | (simp; done)), rfl, rfl, rfl, rfl, by omega, by rw [Nat.sub_zero, List.drop_of_length_le (by rw [beB_len]; omega), List.append_nil, ← fl_rep0]; exact OwnSl.lit (by simp) (by simp only [maxLen]; omega), hO1, (Ext.refl _ _)⟩
    intro m2 g2 w2 hI2
    obtain ⟨k, S, hm2, hs2_28, hs2_0, hs2_1, hs2_6, hs2_27, hk, hS, hO2, e2⟩ := hI2
    obtain ⟨q2, rfl⟩ := fr5 hs2_28 hs2_0 hs2_1 hs2_6 hs2_27
    clear hs2_28 hs2_0 hs2_1 hs2_6 hs2_27
    refine c_seq ?_
    refine c_reg ?_
    refine c_lss rfl rfl (fun h29 => ?_) (fun h29 => ?_)
    · skip
      refine s_nil ?_
      refine c_next ?_
      refine c_seq ?_
      refine c_condT rfl ?_
      refine c_skip ?_
      refine c_next ?_
      refine c_seq ?_
      refine c_block ?_
      refine c_seq ?_
      refine c_reg ?_
      refine s_move (v := .int _ _) rfl ?_
      refine s_assign (v := .int _ _) rfl ?_
      refine s_nil ?_
      refine c_next ?_
      refine c_reg ?_
      refine s_move (v := .slice _ _ _) rfl ?_
      refine s_move (v := .int _ _) rfl ?_
      refine s_sub rfl rfl (by omega) (by omega) ?_
      refine s_move (v := .int _ _) rfl ?_
      refine s_sub rfl rfl (by omega) (by omega) ?_
      refine s_move (v := .int _ _) rfl ?_
      refine s_move (v := .int _ _) rfl ?_
      refine s_mul rfl rfl (by omega) (by omega) ?_
      refine s_convN (a := (8 * k)) (M := 18446744073709551616) Try.underlying3 Try.underlying133 rfl rfl (show _ = Value.int .i64 ((8 * k : Nat) : Int) from congrArg (Value.int .i64) (by omega : (8 * (k : Int)) = ((8 * k : Nat) : Int))) (by omega) ?_
      refine s_shrN (b := (8 * k)) rfl rfl rfl (show 8 * k ≤ 64 by omega) ?_
      refine s_convM (a := _) (M := 256) Try.underlying117 Try.underlying5 rfl rfl rfl ?_
      refine s_idxO Try.underlying33 I5 rfl rfl (by omega) (by omega) hS ?_
      intro g42 tl42 hga42 hgS42 hgl42 hgc42 hgm42 hgx42
      subst hgS42
      refine s_storeO (v := .int _ _) (e := eB) (u := UInt8.ofNat (n / 2 ^ (8 * k))) (o' := k0 - 1 - k) I5 rfl rfl rfl hO2 rfl (by simp [eB]) eB_len hgl42 hgc42 hgm42 hgx42 hga42 (by omega) (by omega) ?_
      intro S42_w3 w3 hS2 hO3 e3
      rw [beB_step (by omega)] at hS2
      refine s_nil ?_
      refine x_norm ?_
      refine c_next ?_
      refine c_reg ?_
      refine s_add rfl rfl (by omega) (by omega) ?_
      refine s_move (v := .int _ _) rfl ?_
      refine s_nil ?_
      refine l_end (m' := k0 - (k + 1)) (by omega) ?_
      refine ⟨k + 1, _, rfl, (by first | rfl | (simp; done) | (congr 1; omega)), rfl, rfl, rfl, rfl, by omega, hS2, hO3, (e2.trans e3)⟩
    refine s_nil ?_
    refine c_next ?_
    refine c_seq ?_
    refine c_condF rfl ?_
    refine c_exit ?_
    refine x_then ?_
    refine x_then ?_
    refine x_same ?_
    refine c_next ?_
    refine c_seq ?_
    refine c_reg ?_
    refine s_move (v := .slice _ _ _) rfl ?_
    refine s_assign (v := .slice _ _ _) rfl ?_
    refine s_assign (v := .int _ _) rfl ?_
    refine s_nil ?_
    refine c_next ?_
    refine c_ret ?_
    refine e_2 (v := .slice _ _ _) (v' := .int _ _) Try.results60 rfl rfl ?_
    obtain rfl : k = k0 := by omega
    rw [if_pos (by omega), Int.toNat_natCast, if_neg (by omega)]
    exact ⟨_, _, _, rfl, by simpa using hS, hO2, (e1.trans e2)⟩
  refine s_move (v := .bool _) rfl ?_
  refine g_skip 16 (by rfl) (by rfl) (by rfl) ?_
  refine g_skip 16 (by rfl) (by rfl) (by rfl) ?_
  refine g_skip 16 (by rfl) (by rfl) (by rfl) ?_
  refine g_skip 16 (by rfl) (by rfl) (by rfl) ?_
  refine g_skip 16 (by rfl) (by rfl) (by rfl) ?_
  refine g_skip 16 (by rfl) (by rfl) (by rfl) ?_
  refine s_pickF (v := .bool _) rfl rfl ?_
  refine s_nil ?_
  refine c_next ?_
  refine c_condF rfl ?_
  refine c_skip ?_
  refine c_next ?_
  refine c_seq ?_
  refine c_reg ?_
  refine s_move (v := .int _ _) rfl ?_
  refine s_make Try.underlying33 I5 rfl hO rfl rfl (by omega) (by decide) ?_
  intro b25 w4 hz25 hl25 hO4 e4
  refine s_assign (v := .slice _ _ _) rfl ?_
  refine s_nil ?_
  refine c_next ?_
  refine c_seq ?_
  refine c_seq ?_
  refine c_reg ?_
  refine s_move (v := .slice _ _ _) rfl ?_
  refine s_len Try.underlying33 rfl ?_
  refine s_move (v := .int _ _) rfl ?_
  refine s_nil ?_
  refine c_next ?_
  refine c_block ?_
  refine c_loopL hO4 (fun Lc f0 m g wl => ∃ (k : Nat) (S : Hp), (m = k0 - k) ∧ (g 28 = .int .i64 (k : Int)) ∧ (g 0 = f0 0) ∧ (g 1 = f0 1) ∧ (g 6 = f0 6) ∧ (g 27 = f0 27) ∧ (k ≤ k0) ∧ (OwnSl 5 1 (some ⟨b25, 0, none⟩) k0 k0 (fl eB (List.replicate (k0 - k) 0 ++ (beB k0 n).drop (k0 - k))) S) ∧ (Own wl (S ++ L)) ∧ (Ext w4 Lc wl (S ++ L))) (k0 - 0) ?_ ?_
  · refine ⟨0, _, rfl, (by first | rfl | (simp; done)), rfl, rfl, rfl, rfl, by omega, by rw [Nat.sub_zero, List.drop_of_length_le (by rw [beB_len]; omega), List.append_nil, ← fl_rep0]; exact OwnSl.lit (by simp) (by simp only [maxLen]; omega), hO4, (Ext.refl _ _)⟩
  intro m5 g5 w5 hI5
  obtain ⟨k, S, hm5, hs5_28, hs5_0, hs5_1, hs5_6, hs5_27, hk, hS, hO5, e5⟩ := hI5
  obtain ⟨q5, rfl⟩ := fr5 hs5_28 hs5_0 hs5_1 hs5_6 hs5_27
  clear hs5_28 hs5_0 hs5_1 hs5_6 hs5_27
  refine c_seq ?_
  refine c_reg ?_
  refine c_lss rfl rfl (fun h29 => ?_) (fun h29 => ?_)
  · skip
    refine s_nil ?_
    refine c_next ?_
    refine c_seq ?_
    refine c_condT rfl ?_
    refine c_skip ?_
    refine c_next ?_
    refine c_seq ?_
    refine c_block ?_
    refine c_seq ?_
    refine c_reg ?_
    refine s_move (v := .int _ _) rfl ?_
    refine s_assign (v := .int _ _) rfl ?_
    refine s_nil ?_
    refine c_next ?_
    refine c_reg ?_
    refine s_move (v := .slice _ _ _) rfl ?_
    refine s_move (v := .int _ _) rfl ?_
    refine s_sub rfl rfl (by omega) (by omega) ?_
    refine s_move (v := .int _ _) rfl ?_
    refine s_sub rfl rfl (by omega) (by omega) ?_
    refine s_move (v := .int _ _) rfl ?_
    refine s_move (v := .int _ _) rfl ?_
    refine s_mul rfl rfl (by omega) (by omega) ?_
    refine s_convN (a := (8 * k)) (M := 18446744073709551616) Try.underlying3 Try.underlying133 rfl rfl (show _ = Value.int .i64 ((8 * k : Nat) : Int) from congrArg (Value.int .i64) (by omega : (8 * (k : Int)) = ((8 * k : Nat) : Int))) (by omega) ?_
    refine s_shrN (b := (8 * k)) rfl rfl rfl (show 8 * k ≤ 64 by omega) ?_
    refine s_convM (a := _) (M := 256) Try.underlying117 Try.underlying5 rfl rfl rfl ?_
    refine s_idxO Try.underlying33 I5 rfl rfl (by omega) (by omega) hS ?_
    intro g42 tl42 hga42 hgS42 hgl42 hgc42 hgm42 hgx42
    subst hgS42
    refine s_storeO (v := .int _ _) (e := eB) (u := UInt8.ofNat (n / 2 ^ (8 * k))) (o' := k0 - 1 - k) I5 rfl rfl rfl hO5 rfl (by simp [eB]) eB_len hgl42 hgc42 hgm42 hgx42 hga42 (by omega) (by omega) ?_
    intro S42_w6 w6 hS2 hO6 e6
    rw [beB_step (by omega)] at hS2
    refine s_nil ?_
    refine x_norm ?_
    refine c_next ?_
    refine c_reg ?_
    refine s_add rfl rfl (by omega) (by omega) ?_
    refine s_move (v := .int _ _) rfl ?_
    refine s_nil ?_
    refine l_end (m' := k0 - (k + 1)) (by omega) ?_
    refine ⟨k + 1, _, rfl, (by first | rfl | (simp; done) | (congr 1; omega)), rfl, rfl, rfl, rfl, by omega, hS2, hO6, (e5.trans e6)⟩
  refine s_nil ?_
  refine c_next ?_
  refine c_seq ?_
  refine c_condF rfl ?_
  refine c_exit ?_
  refine x_then ?_
  refine x_then ?_
  refine x_same ?_
  refine c_next ?_
  refine c_seq ?_
  refine c_reg ?_
  refine s_move (v := .slice _ _ _) rfl ?_
  refine s_assign (v := .slice _ _ _) rfl ?_
  refine s_assign (v := .int _ _) rfl ?_
  refine s_nil ?_
  refine c_next ?_
  refine c_ret ?_
  refine e_2 (v := .slice _ _ _) (v' := .int _ _) Try.results60 rfl rfl ?_
  obtain rfl : k = k0 := by omega
  rw [if_pos (by omega), Int.toNat_natCast, if_neg (by omega)]
  exact ⟨_, _, _, rfl, by simpa using hS, hO5, (e4.trans e5)⟩

theorem growB (k : Nat) (hk : k * 1 ≤ 70368744177664) (w : World) (L : Hp) (hO : Own w L) :
    Calls Try.prog 79 #[.slice none 0 0, .int .i64 (k : Int)] w fun en w' => ∃ a c S, en = .returned (.slice a 0 c) ∧ OwnSl 5 1 a 0 c [] S ∧ Own w' (S ++ L) ∧ Ext w L w' (S ++ L) := by
  refine enter (n := 27) _ Try.func79 rfl Try.ntmps79 (by simp) ?_
  refine c_seq ?_
  refine c_reg ?_
  refine s_assign (v := .slice _ _ _) rfl ?_
  refine s_nil ?_
  refine c_next ?_
  refine c_seq ?_
  refine c_seq ?_
  refine c_reg ?_
  refine s_move (v := .int _ _) rfl ?_
  refine c_lss rfl rfl (fun h6 => ?_) (fun h6 => ?_)
  · exfalso; omega
  refine s_nil ?_
  refine c_next ?_
  refine c_condF rfl ?_
  refine c_skip ?_
  refine c_next ?_
  refine c_seq ?_
  refine c_seq ?_
  refine c_reg ?_
  refine s_move (v := .int _ _) rfl ?_
  refine s_move (v := .slice _ _ _) rfl ?_
  refine s_cap Try.underlying33 rfl ?_
  refine s_move (v := .slice _ _ _) rfl ?_
  refine s_len Try.underlying33 rfl ?_
  refine s_sub rfl rfl (by omega) (by omega) ?_
  refine s_sub rfl rfl (by omega) (by omega) ?_
  refine s_assign (v := .int _ _) rfl ?_
  refine s_nil ?_
  refine c_next ?_
  refine c_seq ?_
  refine c_reg ?_
  refine s_move (v := .int _ _) rfl ?_
  refine c_gtr rfl rfl (fun h16 => ?_) (fun h16 => ?_)
  · skip
    refine s_nil ?_
    refine c_next ?_
    refine c_condT rfl ?_
    refine c_reg ?_
    refine s_move (v := .slice _ _ _) rfl ?_
    refine s_move (v := .slice _ _ _) rfl ?_
    refine s_cap Try.underlying33 rfl ?_
    refine s_cut Try.underlying33 I5 rfl (sb_h (by omega) (by simp)) ?_
    intro a20 ha20
    obtain rfl : a20 = none := ha20.trans cut0
    refine s_move (v := .int _ _) rfl ?_
    refine s_appendZ (k := k) Try.underlying33 Try.underlying3 I5 rfl (by decide) (by decide) rfl (by simp; rfl) (OwnSl.nil _ _) (hO.perm pmN) (by rw [zeroCells_one rfl]; intro u hu; rw [List.eq_of_mem_replicate hu]; rfl) (mk := _) rfl (by omega) ?_
    intro a22 c22 S22 w1 hS22 hO1' e1'
    have hO1 := hO1'.perm (List.Perm.symm pm0); have e1 := e1'.permB pmN (List.Perm.symm pm0); clear hO1' e1'
    refine s_move (v := .slice _ _ _) rfl ?_
    refine s_len Try.underlying33 rfl ?_
    refine s_cut Try.underlying33 I5 rfl (sb_h (by decide) (by simp)) ?_
    intro a25 ha25
    refine s_assign (v := .slice _ _ _) rfl ?_
    refine s_nil ?_
    refine c_next ?_
    refine c_seq ?_
    refine c_reg ?_
    refine s_move (v := .slice _ _ _) rfl ?_
    refine s_assign (v := .slice _ _ _) rfl ?_
    refine s_nil ?_
    refine c_next ?_
    refine c_ret ?_
    refine e_1 (v := .slice _ _ _) Try.results79 rfl ?_
    exact ⟨a22, c22, S22, by rw [ha25, cut0]; rfl, OwnSl.shrink hS22 (by simp) (by omega), hO1, e1⟩
  refine s_nil ?_
  refine c_next ?_
  refine c_condF rfl ?_
  refine c_skip ?_
  refine c_next ?_
  refine c_seq ?_
  refine c_reg ?_
  refine s_move (v := .slice _ _ _) rfl ?_
  refine s_assign (v := .slice _ _ _) rfl ?_
  refine s_nil ?_
  refine c_next ?_
  refine c_ret ?_
  refine e_1 (v := .slice _ _ _) Try.results79 rfl ?_
  obtain rfl : k = 0 := by omega
  exact ⟨none, 0, [], rfl, OwnSl.nil _ _, hO, (Ext.refl _ _)⟩
end Go.Proofs.Ytpjojocckoobeaa
