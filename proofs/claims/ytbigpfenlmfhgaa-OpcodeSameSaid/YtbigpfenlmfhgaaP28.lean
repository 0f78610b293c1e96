/- A part of the proof that the row of the law holds of the program as translated: lemmas and contracts of its functions. -/
import Derived.Test.YtbigpfenlmfhgaaP27
import Derived.Test.YtbigpfenlmfhgaaX28p
set_option linter.unusedVariables false
set_option linter.unusedSimpArgs false
namespace Go.AV
/-! ### OpcodeSame: an op does what its own fields alone do -/
def ownO (o : OpC) : OpC :=
  if o.Kind = 1 ∨ o.Kind = 2 then ⟨o.Kind, o.Device, 0, 0, 0, 0, 0⟩ else
  if o.Kind = 3 then ⟨o.Kind, o.Device, o.Request, 0, o.For, o.Until, o.Now⟩ else
  if o.Kind = 4 then ⟨o.Kind, o.Device, o.Request, o.Ticket, 0, 0, o.Now⟩ else
  if o.Kind = 5 then ⟨o.Kind, o.Device, o.Request, 0, 0, 0, 0⟩ else ⟨o.Kind, 0, 0, 0, 0, 0, 0⟩
theorem own_eq (o : OpC) : F_opcode_Own o = some (ownO o) := by
  unfold F_opcode_Own ownO
  by_cases h1 : o.Kind = 1
  · simp [h1]
  by_cases h2 : o.Kind = 2
  · simp [h2]
  by_cases h3 : o.Kind = 3
  · simp [h3]
  by_cases h4 : o.Kind = 4
  · simp [h4]
  by_cases h5 : o.Kind = 5
  · simp [h5]
  · simp [h1, h2, h3, h4, h5]
theorem do_own (s : Sta) (o : OpC) : doS s (ownO o) = doS s o := by
  have hr : rawS s (ownO o) = rawS s o := by
    unfold ownO
    by_cases h1 : o.Kind = 1
    · simp [h1, rawS]
    by_cases h2 : o.Kind = 2
    · simp [h2, rawS]
    by_cases h3 : o.Kind = 3
    · simp [h3, rawS, askedS, issueS]
    by_cases h4 : o.Kind = 4
    · simp [h4, rawS, askedS]
    by_cases h5 : o.Kind = 5
    · simp [h5, rawS, askedS]
    · simp [h1, h2, h3, h4, h5, rawS]
  unfold doS
  rw [hr]
theorem num1 {w : T_codec_Writer} {n : Int} (h0 : 0 ≤ n) (h1 : n < 128) (he : w.e = 0) (hl : w.b.length ≤ 1000) : F_codec_Writer_Number w n = some ⟨w.b ++ [UInt8.ofInt n], 0⟩ := by
  unfold F_codec_Writer_Number
  have a : ¬ n < 0 := by omega
  have b : ¬ n > 72057594037927935 := by omega
  have c : ¬ n ≥ 128 := by omega
  simp only [a, b, if_false, Option.bind_some, Bool.false_eq_true]
  refine loop_out ?_
  simp only [codec_Writer_Number_l2, c, if_false, F_codec_Writer_add, he, if_true]
  rw [app_of (by simp; omega)]
  simp
theorem awake28 : F_batonlaw28_awake = some true := by
  unfold F_batonlaw28_awake F_opcode_Op
  have t : F_opcode_told ⟨5, 1, 2, 0, 0, 0, 0⟩ = some true := by
    unfold F_opcode_told
    simp [own_eq, ownO, F_opcode_count]
  simp only [t, Option.bind_some, if_true, F_codec_NewWriter]
  rw [num1 (n := 5) (by decide) (by decide) rfl (by decide)]
  simp only [Option.bind_some]
  rw [if_pos (by decide), num1 (n := 1) (by decide) (by decide) rfl (by decide)]
  simp only [Option.bind_some]
  rw [if_pos (by decide), if_pos (by decide), num1 (n := 2) (by decide) (by decide) rfl (by decide)]
  simp only [Option.bind_some]
  rw [if_neg (by decide)]
  simp only [Option.bind_some, Bool.false_eq_true, if_false]
  rw [if_neg (by decide)]
  have hb : F_codec_Writer_Bytes ⟨(([] ++ [UInt8.ofInt 5]) ++ [UInt8.ofInt 1]) ++ [UInt8.ofInt 2], 0⟩ = some (⟨[5, 1, 2], 0⟩, [5, 1, 2], 0) := by
    unfold F_codec_Writer_Bytes
    rw [app_of (by decide)]
    rfl
  rw [hb]
  simp only [Option.bind_some, if_true]
  have hs : F_batonref01_Same [5, 1, 2] [5, 1, 2] = some true := by
    unfold F_batonref01_Same
    simp only [ne_eq, not_true_eq_false, if_false, Option.bind_some, Bool.false_eq_true]
    refine (loop_next (s' := 1) rfl).trans ((loop_next (s' := 2) rfl).trans ((loop_next (s' := 3) rfl).trans (loop_out rfl)))
  rw [hs]
  rfl
/-- OpcodeSame, plain. -/
theorem opcodeSame (s : Sta) (o : OpC) : F_batonlaw28_OpcodeSame s o = some true := by
  unfold F_batonlaw28_OpcodeSame
  rw [awake28, few_eq]
  simp only [Option.bind_some, if_true]
  by_cases hf : s.Roster.length ≤ 30 ∧ s.Tickets.length ≤ 40
  · obtain ⟨b, h1, h2⟩ := right_eq hf.1 hf.2
    simp only [hf, and_self, decide_true, if_true, h1, Option.bind_some]
    cases b with
    | false => simp only [Bool.not_false, if_true]
    | true =>
      have hs := h2 rfl
      simp only [Bool.not_true, Bool.false_eq_true, if_false]
      rw [do_eq hs, own_eq]
      simp only [Option.bind_some]
      rw [do_eq hs, do_own]
      simp only [Option.bind_some, if_true]
      rw [sameC (do_ok hs)]
      rfl
  · simp only [hf, decide_false, Bool.false_eq_true, if_false, Option.bind_some, if_true]
end Go.AV
